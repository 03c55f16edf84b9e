/- Part of the proof of EvalPutMeansUptoCardSaid: see the last file.  -/
import Derived.Lib.DecodeN
import Derived.Laws.MathBits
import Derived.KernelRfl
import Derived.Test.YtcbmccpkhagckaaGreatDoorRows
import Derived.Lib.ItoaLen
import Derived.Lib.Strings
import Derived.Test.YtcbmccpkhagckaaGreatDoorT0
import Derived.Test.YtcbmccpkhagckaaGreatDoorT1
import Derived.Test.YtcbmccpkhagckaaGreatDoorT2
set_option linter.unusedSimpArgs false
set_option linter.unusedVariables false
set_option linter.unusedSectionVars false
set_option maxRecDepth 100000
namespace Go.AM
open List Go
theorem zml(n b0 b1 b2 b3:Nat)(hn:0<n):(b0<128∧Go.Lib.decodeN n b0 b1 b2 b3=(b0,1))∨(128≤b0∧Go.Lib.decodeN n b0 b1 b2 b3=(65533,1)) ∨
  (128≤b0∧1<n∧128≤b1∧(Go.Lib.decodeN n b0 b1 b2 b3).2=2∧128≤(Go.Lib.decodeN n b0 b1 b2 b3).1) ∨
  (128≤b0∧2<n∧128≤b1∧128≤b2∧(Go.Lib.decodeN n b0 b1 b2 b3).2=3∧128≤(Go.Lib.decodeN n b0 b1 b2 b3).1) ∨
  (128≤b0∧3<n∧128≤b1∧128≤b2∧128≤b3∧(Go.Lib.decodeN n b0 b1 b2 b3).2=4∧128≤(Go.Lib.decodeN n b0 b1 b2 b3).1):=by
 unfold Go.Lib.decodeN
 repeat' split
 all_goals first
  |(left;exact⟨by assumption,rfl⟩)
  |(right;left;exact⟨by omega,rfl⟩)
  |(right;right;left;exact⟨by omega,by omega,by omega,rfl,by dsimp only;omega⟩)
  |(right;right;right;left;exact⟨by omega,by omega,by omega,by omega,rfl,by dsimp only;omega⟩)
  |(right;right;right;right;exact⟨by omega,by omega,by omega,by omega,by omega,rfl,by dsimp only;omega⟩)
theorem ba_get (l : List UInt8) (j : Nat) : (ba l).get! j = l.getD j 0 := by
  show (ba l).data[j]! = _
  rw [getD_eq_getElem?_getD]
  by_cases h : j < l.length
  · simp [getElem!_pos, h]
  · rw [getElem!_neg _ _ (by simpa using h), List.getElem?_eq_none (by omega)]
    rfl
theorem dec_sp(l:List UInt8)(i:Nat)(hi:i<l.length):1≤(Utf8.decode (ba l) i).2∧i+(Utf8.decode (ba l) i).2≤l.length ∧
  (((Utf8.decode (ba l) i).1=32∧(Utf8.decode (ba l) i).2=1∧l.getD i 0=32)∨((Utf8.decode (ba l) i).1≠32∧∀j,i≤j→j<i+(Utf8.decode (ba l) i).2→l.getD j 0≠32)):=by
 have no:∀j,128≤(l.getD j 0).toNat→l.getD j 0≠32:=fun j h e=>by rw[e]at h;exact absurd h (by decide)
 rw[Go.Lib.decode_at,zcC];simp only[ba_get];have hs:=zml (l.length-i) (l.getD i 0).toNat (l.getD (i+1) 0).toNat (l.getD (i+2) 0).toNat (l.getD (i+3) 0).toNat (by omega);generalize Go.Lib.decodeN (l.length-i) (l.getD i 0).toNat (l.getD (i+1) 0).toNat (l.getD (i+2) 0).toNat (l.getD (i+3) 0).toNat=q at hs ⊢;obtain⟨r,w⟩:=q;rcases hs with⟨h1,h2⟩|⟨h1,h2⟩|⟨h1,h2,h3,h4,h5⟩|⟨h1,h2,h3,h3',h4,h5⟩|⟨h1,h2,h3,h3',h3'',h4,h5⟩
 ·cases h2;refine⟨Nat.le_refl _,by show i+1≤_;omega,?_⟩;by_cases e:l.getD i 0=32
  ·left;rw[e];exact⟨rfl,rfl,rfl⟩
  ·right;refine⟨fun q=>e (UInt8.toNat_inj.1 q),fun j h3 h4=>?_⟩;have:j=i:=by have h4:j<i+1:=h4;omega
   rw[this];exact e
 ·cases h2;refine⟨Nat.le_refl _,by show i+1≤_;omega,.inr ⟨by decide,fun j h3 h4=>?_⟩⟩;have:j=i:=by have h4:j<i+1:=h4;omega
  rw[this];exact no i h1
 ·dsimp only at h4 h5 ⊢;subst h4;refine⟨by omega,by omega,.inr ⟨by omega,fun j h6 h7=>?_⟩⟩;have:j=i∨j=i+1:=by omega
  rcases this with rfl|rfl
  ·exact no _ h1
  ·exact no _ h3
 ·dsimp only at h4 h5 ⊢;subst h4;refine⟨by omega,by omega,.inr ⟨by omega,fun j h6 h7=>?_⟩⟩;have:j=i∨j=i+1∨j=i+2:=by omega
  rcases this with rfl|rfl|rfl
  ·exact no _ h1
  ·exact no _ h3
  ·exact no _ h3'
 ·dsimp only at h4 h5 ⊢;subst h4;refine⟨by omega,by omega,.inr ⟨by omega,fun j h6 h7=>?_⟩⟩;have:j=i∨j=i+1∨j=i+2∨j=i+3:=by omega
  rcases this with rfl|rfl|rfl|rfl
  ·exact no _ h1
  ·exact no _ h3
  ·exact no _ h3'
  ·exact no _ h3''
theorem c_space(r:Int)(H:Hp):RR Az [.int .i32 r] H=some (.bool (decide (r=32)),H):=by refine(zkw E0 rfl _ H).trans ?_;unfold zga;rw[zaZ]
def spn:List UInt8→Nat→Option Nat→List (Nat×Nat)
 |[],_,none=>[]
 |[],i,some a=>[(a,i)]
 |b::r,i,st=>match b==32,st with
  |true,none=>spn r (i+1) none
  |true,some a=>(a,i)::spn r (i+1) none
  |false,st=>spn r (i+1) (some (st.getD i))
theorem znI:∀(x r:List UInt8) (i:Nat) (st:Option Nat),(∀b∈x,b≠32)→x≠[]→spn (x++r) i st=spn r (i+x.length) (some (st.getD i))
 |[],_,_,_,_,h=>absurd rfl h
 |b::x,r,i,st,h,_=>by
  have hb:(b==32)=false:=by rw[beq_eq_false_iff_ne];exact h b (mem_cons_self ..)
  show spn (b::(x++r)) i st=_;have e:spn (b::(x++r)) i st=spn (x++r) (i+1) (some (st.getD i)):=by
   conv=>lhs;unfold spn
   rw[hb]
  rw[e];cases x with
  |nil=>rfl
  |cons c x=>
   rw[znI (c::x) r (i+1) _ (fun b hb=>h b (mem_cons_of_mem _ hb)) (by simp)];simp only[length_cons,Option.getD_some];congr 1;omega
theorem zki{b:UInt8}(hb:(b==32)=true)(r:List UInt8)(i:Nat):spn (b::r) i none=spn r (i+1) none:=by
 conv=>lhs;unfold spn
 rw[hb]
theorem zmA{b:UInt8}(hb:(b==32)=true)(r:List UInt8)(i a:Nat):spn (b::r) i (some a)=(a,i)::spn r (i+1) none:=by
 conv=>lhs;unfold spn
 rw[hb]
def stV:Option Nat→Int→Prop
 |none,v=>v<0
 |some a,v=>v=a
def zhP(p:Nat×Nat):List Value:=[.int .i64 (p.1:Int),.int .i64 (p.2:Int)]
def zc7(l:List UInt8)(i:Nat):Value:=.tuple #[.string (ba l),.int .i64 (i:Nat)]
theorem neg_xor(a:Nat)(ha:a<2^62):∃x:Int,x<0∧∀(α:Type) (k:Value→Option α),pUn .xor (.int .i64 (a:Int)) k=k (.int .i64 x):=by
 refine⟨IntKind.i64.wrap (BitVec.ofInt 64 (-1) ^^^ BitVec.ofInt 64 (a:Int)).toNat,?_,fun α k=>rfl⟩;have e1:BitVec.ofInt 64 (-1)=BitVec.allOnes 64:=by decide
 have e2:(BitVec.ofInt 64 (a:Int)).toNat=a:=by rw[BitVec.toNat_ofInt];omega
 have e3:(BitVec.ofInt 64 (-1) ^^^ BitVec.ofInt 64 (a:Int)).toNat=2^64-1-a:=by rw[e1,BitVec.allOnes_xor,BitVec.toNat_not,e2]
 rw[e3];have hc:((2^64-1-a:Nat):Int)=18446744073709551615-(a:Int):=by omega
 rw[hc];have:(IntKind.i64.wrap (18446744073709551615-(a:Int)))=-1-(a:Int):=by clear e3;simp[IntKind.wrap,IntKind.signed,IntKind.bits];omega
 rw[this];omega
theorem s_bspan{α:Type}(a b:Int)(k:Value→Option α):zaE PP A5 [(0,.int .i64 a),(1,.int .i64 b)] k=k (.agg #[.int .i64 a,.int .i64 b]):=by
 have:zgt PP A5 [(0,.int .i64 a),(1,.int .i64 b)]=some (.agg #[.int .i64 a,.int .i64 b]):=by kernel_rfl
 unfold zaE;rw[this]
abbrev spF:Value:=.func (.func Az) #[] #[]
theorem zht{α:Type}(r:Int)(H:Hp)(k:Value→Hp→Option α):zc6 orc RR spF [.int .i32 r] H k=k (.bool (decide (r=32))) H:=by
 have h:orc.pan Az=false:=by kernel_rfl
 have e:zc6 orc RR spF [.int .i32 r] H k=zae RR Az [.int .i32 r] H k:=by unfold zc6;dsimp only;rw[h];rfl
 rw[e,zag (c_space r H)]
theorem span_loop(l:List UInt8)(hl:l.length≤2^40):∀(m i:Nat) (done:List (Nat×Nat)) (st:Option Nat) (z:Int) (v:Value) (H:Hp),l.length-i=m→i≤l.length→stV st z→(∀a,st=some a→a≤i)→done.length≤i→Vec H 2 v done.length (done.flatMap zhP) →
  ∃H' done' st' z' v',zau (zaL RR spF) [v,.int .i64 z,zc7 l i] H=some (.exit 0,[v',.int .i64 z',zc7 l l.length],H') ∧
   done++spn (l.drop i) i st=done'++spn [] l.length st'∧stV st' z'∧(∀a,st'=some a→a≤l.length)∧done'.length≤l.length∧Vec H' 2 v' done'.length (done'.flatMap zhP)∧Frm (Id v) H H'∧(∀j,Id v' j→Id v j∨H.next≤j):=by
 intro m;induction m using Nat.strongRecOn with
 |_ m ih=>
 intro i done st z v H hm hi hst hsti hdl hv;have step:zaL RR spF [v,.int .i64 z,zc7 l i] H=br (Nat.blt i (ba l).size)
   (zc6 orc RR spF [.int .i32 ((Utf8.decode (ba l) i).1:Nat)] H fun r6 H7=>zaa r6 fun b8=>br b8
    (pBin PP .geq Aa (.int .i64 z) (.int .i64 0) fun v9=>zaa v9 fun b10=>br b10
     (zaE PP A5 [(0,.int .i64 z),(1,.int .i64 (i:Nat))] fun v11=>zal 2 [.int .i64 0,.int .i64 0] 1 [(0,v11)] H7 fun v12 H13=>zaF 2 16 v v12 H13 fun v14 H15=>pUn .xor (.int .i64 z) fun v16=>
      some (.next,[v14,v16,zc7 l (i+(Utf8.decode (ba l) i).2)],H15))
     (some (.next,[v,.int .i64 z,zc7 l (i+(Utf8.decode (ba l) i).2)],H7)))
    (pBin PP .lss Aa (.int .i64 z) (.int .i64 0) fun v17=>zaa v17 fun b18=>br b18
     (some (.next,[v,.int .i64 (i:Nat),zc7 l (i+(Utf8.decode (ba l) i).2)],H7))
     (some (.next,[v,.int .i64 z,zc7 l (i+(Utf8.decode (ba l) i).2)],H7))))
   (some (.exit 0,[v,.int .i64 z,zc7 l i],H)):=rfl
 rcases Nat.lt_or_ge i l.length with hlt|hge
 ·have hb:Nat.blt i (ba l).size=true:=by rw[zcC,Nat.blt_eq];exact hlt
  obtain⟨d1,d2,d3⟩:=dec_sp l i hlt;have hdrop:l.drop i=l.getD i 0::l.drop (i+1):=by rw[drop_eq_getElem_cons hlt];simp[getD_eq_getElem?_getD,hlt]
  rw[hb]at step;have hd:decide ((((32:Nat):Int))=32)=true:=by decide
  rcases d3 with⟨e1,e2,e3⟩|⟨e1,e2⟩
  ·have h32:(l.getD i 0==32)=true:=by rw[e3];rfl
   rw[e1,e2]at step;cases st with
   |none=>
    have hz:¬(z≥0):=by have:z<0:=hst;omega
    have this:zaL RR spF [v,.int .i64 z,zc7 l i] H=some (.next,[v,.int .i64 z,zc7 l (i+1)],H):=by rw[step];simp only[s_br,if_true,zht,hd,zad,zdX,hz,decide_false,Bool.false_eq_true,if_false]
    obtain⟨H',done',st',z',v',g1,g2,g3⟩:=ih (l.length-(i+1)) (by omega) (i+1) done none z v H rfl (by omega) hst (fun a ha=>by cases ha) (by omega) hv;refine⟨H',done',st',z',v',?_,?_,g3⟩
    ·rw[zah,this];exact g1
    ·rw[hdrop,zki h32];exact g2
   |some a=>
    have hza:z=(a:Int):=hst;have hai:=hsti a rfl;obtain⟨x,hx0,hx⟩:=neg_xor a (by omega);obtain⟨v2,H2,hpu,hv2,hf2,hid2,_⟩:=hv.push (bytes:=16) (zs:=[.int .i64 0,.int .i64 0]) (x:=.agg #[.int .i64 (a:Int),.int .i64 (i:Int)]) (by omega) (by omega) rfl rfl rfl (by omega);have hv3:Vec H2 2 v2 (done++[(a,i)]).length ((done++[(a,i)]).flatMap zhP):=by rw[length_append,flatMap_append];exact hv2
    have hz:z≥0:=by omega
    have this:zaL RR spF [v,.int .i64 z,zc7 l i] H=some (.next,[v2,.int .i64 x,zc7 l (i+1)],H2):=by rw[step];simp only[s_br,if_true,zht,hd,zad,zdX,hz,decide_true,s_bspan];rw[hza,hpu,hx]
    obtain⟨H',done',st',z',v',g1,g2,g3,g4,g5,g6,g7,g8⟩:=ih (l.length-(i+1)) (by omega) (i+1) (done++[(a,i)]) none x v2 H2 rfl (by omega) hx0 (fun a ha=>by cases ha) (by simp;omega) hv3;refine⟨H',done',st',z',v',?_,?_,g3,g4,g5,g6,hf2.trans g7 hid2,fun j hj=>?_⟩
    ·rw[zah,this];exact g1
    ·rw[hdrop,zmA h32];rw[←g2];simp
    ·rcases g8 j hj with q|q
     ·exact hid2 j q
     ·exact .inr (Nat.le_trans hf2.next q)
  ·generalize hq:Utf8.decode (ba l) i=q at step d1 d2 e1 e2;obtain⟨r,w⟩:=q;dsimp only at step d1 d2 e1 e2;have hr:¬((r:Int)=32):=by omega
   have hsk:∀st,spn (l.drop i) i st=spn (l.drop (i+w)) (i+w) (some (st.getD i)):=fun st=>by
    have hsp:l.drop i=(l.drop i).take w++l.drop (i+w):=by rw[←drop_drop];exact(take_append_drop w _).symm
    have hlen:((l.drop i).take w).length=w:=by rw[length_take,length_drop];omega
    have:=znI ((l.drop i).take w) (l.drop (i+w)) i st (fun b hb=>by
     obtain⟨j,hj,hjb⟩:=mem_iff_getElem.1 hb;rw[hlen]at hj;have h1:=e2 (i+j) (by omega) (by omega);rw[getElem_take,getElem_drop]at hjb;rw[getD_eq_getElem?_getD,List.getElem?_eq_getElem (by omega),Option.getD_some,hjb]at h1
     exact h1) (fun h=>by rw[h]at hlen;simp at hlen;omega)
    rw[←hsp,hlen]at this;exact this
   have go:∀(z2:Int) (st2:Option Nat),st2=some (st.getD i)→z2=((st.getD i:Nat):Int)→st.getD i≤i→zaL RR spF [v,.int .i64 z,zc7 l i] H=some (.next,[v,.int .i64 z2,zc7 l (i+w)],H) →
     ∃H' done' st' z' v',zau (zaL RR spF) [v,.int .i64 z,zc7 l i] H=some (.exit 0,[v',.int .i64 z',zc7 l l.length],H') ∧
      done++spn (l.drop i) i st=done'++spn [] l.length st'∧stV st' z'∧(∀a,st'=some a→a≤l.length)∧done'.length≤l.length∧Vec H' 2 v' done'.length (done'.flatMap zhP)∧Frm (Id v) H H'∧(∀j,Id v' j→Id v j∨H.next≤j):=by
    intro z2 st2 hs2 hz2 hle this;obtain⟨H',done',st',z',v',g1,g2,g3⟩:=ih (l.length-(i+w)) (by omega) (i+w) done st2 z2 v H rfl (by omega) (by rw[hs2];exact hz2) (fun a ha=>by rw[hs2]at ha;cases ha;omega) (by omega) hv;refine⟨H',done',st',z',v',?_,?_,g3⟩
    ·rw[zah,this];exact g1
    ·rw[hsk,←hs2];exact g2
   cases st with
   |none=>
    have hz:z<0:=hst;refine go (i:Nat) _ rfl rfl (Nat.le_refl _) ?_;rw[step];simp only[s_br,if_true,zht,zad,hr,decide_false,Bool.false_eq_true,if_false,zbh,hz,decide_true]
   |some a=>
    have hza:z=(a:Int):=hst;have hz:¬z<0:=by omega
    refine go z _ rfl hza (hsti a rfl) ?_;rw[step];simp only[s_br,if_true,zht,zad,hr,decide_false,Bool.false_eq_true,if_false,zbh,hz]
 ·have hie:i=l.length:=by omega
  subst hie;have hb:Nat.blt l.length (ba l).size=false:=by
   rw[zcC];cases h:Nat.blt l.length l.length with
   |false=>rfl
   |true=>rw[Nat.blt_eq]at h;exact absurd h (Nat.lt_irrefl _)
  rw[hb]at step;refine⟨H,done,st,z,v,?_,?_,hst,hsti,hdl,hv,Frm.refl _ _,fun j hj=>.inl hj⟩
  ·rw[zah,step];rfl
  ·rw[drop_length]
theorem znJ:∀(l:List UInt8) (i:Nat) (st:Option Nat),(∀a,st=some a→a≤i)→∀p∈spn l i st,p.1≤p.2∧p.2≤i+l.length
 |[],i,none,h,p,hp=>by cases hp
 |[],i,some a,h,p,hp=>by
  have hp:p∈[(a,i)]:=hp;rw[mem_singleton]at hp;subst hp;exact⟨h a rfl,by simp⟩
 |b::r,i,st,h,p,hp=>by
  cases hb:b==32 with
  |true=>
   cases st with
   |none=>
    rw[zki hb]at hp;have:=znJ r (i+1) none (fun a ha=>by cases ha) p hp;simp only[length_cons];omega
   |some a=>
    rw[zmA hb]at hp;rcases mem_cons.1 hp with rfl|hp
    ·exact⟨h a rfl,by simp only[length_cons];omega⟩
    ·have:=znJ r (i+1) none (fun a ha=>by cases ha) p hp;simp only[length_cons];omega
  |false=>
   have e:spn (b::r) i st=spn r (i+1) (some (st.getD i)):=by
    conv=>lhs;unfold spn
    rw[hb]
   rw[e]at hp
   have:=znJ r (i+1) (some (st.getD i)) (fun a ha=>by
    cases ha;cases st with
    |none=>simp
    |some a=>have:=h a rfl;simp;omega) p hp
   simp only[length_cons];omega
def zdp(l:List UInt8)(p:Nat×Nat):List UInt8:=(l.take p.2).drop p.1
theorem s_cutL{α:Type}(l:List UInt8){a e:Nat}(h:a≤e)(he:e≤l.length)(k:Value→Option α):zbc (str l) (some (.int .i64 (a:Int))) (some (.int .i64 (e:Int))) k=k (str (zdp l (a,e))):=by
 have:=s_cut (ba l) .i64 .i64 a e h (by rw[zcC];exact he) k
 have hx:(ba l).extract a e=ba (zdp l (a,e)):=zj0 (by
  simp only[ByteArray.data_extract,Array.toList_extract,extract_eq_take_drop,zdp]
  rw[drop_take])
 rw[hx]at this;exact this
theorem span_at:∀(L:List (Nat×Nat)) (i:Nat) (p:Nat×Nat),L[i]?=some p→((L.flatMap zhP).drop (i*2)).take 2=zhP p
 |q::L,0,p,h=>by cases h;rfl
 |q::L,i+1,p,h=>by
  have e:(i+1)*2=i*2+2:=by omega
  rw[e];show List.take 2 (List.drop (i*2+2) (.int .i64 (q.1:Int) :: .int .i64 (q.2:Int)::L.flatMap zhP))=_;exact span_at L i p h
theorem zlb(l:List UInt8)(hl:l.length≤2^40)(L:List (Nat×Nat))(hL:∀p∈L,p.1≤p.2∧p.2≤l.length)(hn:L.length≤2^41)(sv v:Value)(hne:∀j,Id v j→¬Id sv j):∀(m i:Nat) (H:Hp),i+m=L.length→Vec H 2 sv L.length (L.flatMap zhP)→Vec H 1 v L.length (((L.take i).map (zdp l)).map str++repl m [str []]) →
  ∃H',zau (zaS RR (str l) v (.int .i64 (L.length:Int)) [sv]) [.int .i64 (i:Int)] H=some (.exit 2,[.int .i64 (L.length:Int)],H')∧Vec H' 1 v L.length ((L.map (zdp l)).map str)∧Frm (Id v) H H'
 |0,i,H,hi,hs,hv=>by
  have h1:¬((i:Int)<(L.length:Int)):=by omega
  have this:zaS RR (str l) v (.int .i64 (L.length:Int)) [sv] [.int .i64 (i:Int)] H=some (.exit 2,[.int .i64 (i:Int)],H):=by unfold zaS;simp only[qg0,zbh,zad,s_br,h1,decide_false,Bool.false_eq_true,if_false]
  have hil:i=L.length:=by omega
  refine⟨H,?_,?_,Frm.refl _ _⟩
  ·rw[zah,this,hil];rfl
  ·rw[hil,take_length]at hv;simpa[repl] using hv
 |m+1,i,H,hi,hs,hv=>by
  have hlt:i<L.length:=by omega
  have hp:L[i]?=some L[i]:=List.getElem?_eq_getElem hlt;generalize L[i]=p at hp;obtain⟨a,e⟩:=p;have hpl:=hL (a,e) (mem_of_getElem? hp);obtain⟨y,hy,⟨rest,hg⟩,hix⟩:=hs.ix (i:=i) hlt;obtain⟨y2,hy2,_,hix2⟩:=hv.ix (i:=i) hlt;have hsz:=hv.size;have hsz2:=hs.size;obtain⟨H1,hst,hv1,hf1,hnx⟩:=hv.set hy2 (o:=i*1) (m:=1) (x:=str (zdp l (a,e))) rfl (by rw[hsz];omega) rfl;have hspl:=zkj (((L.take i).map (zdp l)).map str) (str []) (str (zdp l (a,e))) (i:=i) (n:=L.length) (by simp;omega) m;have hcl:zab (str (zdp l (a,e)))=[str (zdp l (a,e))]:=rfl;rw[hcl,hspl]at hv1;have htk:L.take (i+1)=L.take i++[(a,e)]:=by rw[take_add_one,hp];rfl
  have hv2:Vec H1 1 v L.length (((L.take (i+1)).map (zdp l)).map str++repl m [str []]):=by rw[htk];simpa using hv1
  have hs2:Vec H1 2 sv L.length (L.flatMap zhP):=hs.keep hf1 fun j hj hj2=>hne j hj2 hj;obtain⟨H',g1,g2,g3⟩:=zlb l hl L hL hn sv v hne m (i+1) H1 (by omega) hs2 hv2;refine⟨H',?_,g2,hf1.trans g3 fun j hj=>.inl hj⟩;have q1:((i:Int)<(L.length:Int)):=by omega
  have hld:=fun (α:Type) (k:Value→Option α)=>ld_agg hg (o:=i*2) (m:=2) (by rw[hsz2];omega) k;rw[span_at L i (a,e) hp]at hld;have e2:(i:Int)+1=((i+1:Nat):Int):=by omega
  have this:zaS RR (str l) v (.int .i64 (L.length:Int)) [sv] [.int .i64 (i:Int)] H=some (.next,[.int .i64 ((i+1:Nat):Int)],H1):=by unfold zaS;simp only[qg0,zbh,zad,s_br,q1,decide_true,if_true];rw[hix,hld];show (zbc (str l) (some (.int .i64 (a:Int))) (some (.int .i64 (e:Int))) fun v48=>_)=_;rw[s_cutL l hpl.1 hpl.2,hix2,hst,zaU,e2,w64 (by omega) (by omega)]
  rw[zah,this];exact g1
theorem Vec.capS(H:Hp){sz bytes:Nat}{zs:List Value}(hz:zs.length=sz)(h1:zs.all one=true){n:Nat}(hb:n*bytes≤2^47) :
  ∃v H',(∀(α:Type) (k:Value→Hp→Option α),zaY sz bytes zs (.int .i64 0) (.int .i64 (n:Int)) H k=k v H')∧Vec H' sz v 0 []∧Frm (fun _=>False) H H'∧(∀j,Id v j→H.next≤j):=by
 have ra:∀n,(repl n zs).all one=true:=fun n=>by
  induction n with
  |zero=>rfl
  |succ n ih=>show (zs++repl n zs).all one=true;rw[all_append,h1,ih];rfl
 refine⟨.slice (some ⟨H.next,0,some sz⟩) 0 n,H.new (.cells (repl n zs) true),fun α k=>?_,.inr ⟨H.next,n,repl n zs,rfl,Nat.zero_le _,?_,by simp,by rw[ze6,hz];rfl,by show H.next<H.next+1;omega,ra n⟩,zcz _ _ _,fun j hj=>by cases hj;exact Nat.le_refl _⟩
 ·have e:((2:Int)^47)=((2^47:Nat):Int):=by rfl
  have hb':(n:Int)*(bytes:Int)≤2^47:=by rw[e,←Int.natCast_mul];exact Int.ofNat_le.2 hb
  have:zca sz bytes zs (.int .i64 0) (.int .i64 (n:Int)) H=some (.slice (some ⟨H.next,0,some sz⟩) 0 n,H.new (.cells (repl n zs) true)):=by unfold zca;dsimp only;rw[if_pos ⟨by omega,by omega,hb'⟩];rfl
  unfold zaY;rw[this]
 ·rw[get_new,if_pos rfl,nil_append]
def zbN(l:List UInt8):List (List UInt8):=(spn l 0 none).map (zdp l)
theorem zgy:∀(l:List UInt8) (i:Nat) (st:Option Nat),(spn l i st).length≤l.length+1
 |[],i,none=>by simp[spn]
 |[],i,some a=>by simp[spn]
 |b::r,i,st=>by
  cases hb:b==32 with
  |true=>
   cases st with
   |none=>rw[zki hb];have:=zgy r (i+1) none;simp only[length_cons];omega
   |some a=>rw[zmA hb];have:=zgy r (i+1) none;simp only[length_cons];omega
  |false=>
   have e:spn (b::r) i st=spn r (i+1) (some (st.getD i)):=by
    conv=>lhs;unfold spn
    rw[hb]
   rw[e];have:=zgy r (i+1) (some (st.getD i));simp only[length_cons];omega
theorem c_fields(l:List UInt8)(hl:l.length≤2^40)(H:Hp):∃v H',RR AG [str l,spF] H=some (v,H')∧Vec H' 1 v (zbN l).length ((zbN l).map str)∧Frm (fun _=>False) H H'∧∀j,Id v j→H.next≤j:=by
 obtain⟨v1,H1,hmk,hv1,hf1,hid1⟩:=Vec.capS H (sz:=2) (bytes:=16) (zs:=[.int .i64 0,.int .i64 0]) rfl rfl (n:=32) (by omega);obtain⟨H2,done,st,z,v2,g1,g2,g3,g4,g5,g6,g7,g8⟩:=span_loop l hl (l.length-0) 0 [] none (-1) v1 H1 rfl (Nat.zero_le _) (by show (-1:Int)<0;decide) (fun a ha=>by cases ha) (Nat.le_refl _) hv1;rw[nil_append,qd0]at g2;have hid2:∀j,Id v2 j→H.next≤j:=fun j hj=>by
  rcases g8 j hj with q|q
  ·exact hid1 j q
  ·exact Nat.le_trans hf1.next q
 have hf2:Frm (fun _=>False) H H2:=hf1.trans g7 fun j hj=>.inr (hid1 j hj)
 have last:∃H3 v3,(zaw (pBin PP .geq Aa (.int .i64 z) (.int .i64 0) fun v23=>zaa v23 fun b24=>br b24
   (pLen .str (str l) H2 fun v25=>zaE PP A5 [(0,.int .i64 z),(1,v25)] fun v26=>zal 2 [.int .i64 0,.int .i64 0] 1 [(0,v26)] H2 fun v27 H28=>zaF 2 16 v2 v27 H28 fun v29 H30=>some (.next,[v29],H30))
   (some (.next,[v2],H2))):(Ctl→List Value→Hp→Option (Value×Hp))→Option (Value×Hp))=(fun k=>k .next [v3] H3) ∧
   Vec H3 2 v3 (spn l 0 none).length ((spn l 0 none).flatMap zhP)∧Frm (fun _=>False) H H3∧∀j,Id v3 j→H.next≤j:=by
  cases st with
  |none=>
   have hz:¬z≥0:=by have:z<0:=g3;omega
   have e:spn l 0 none=done:=by rw[g2];show done++[]=done;rw[append_nil]
   refine⟨H2,v2,?_,by rw[e];exact g6,hf2,hid2⟩;funext k;simp only[zdX,zad,s_br,hz,decide_false,Bool.false_eq_true,if_false,zan]
  |some a=>
   have hza:z=(a:Int):=g3;have hz:z≥0:=by omega
   have e:spn l 0 none=done++[(a,l.length)]:=g2;obtain⟨v3,H3,hpu,hv3,hf3,hid3,_⟩:=g6.push (bytes:=16) (zs:=[.int .i64 0,.int .i64 0]) (x:=.agg #[.int .i64 (a:Int),.int .i64 (l.length:Int)]) (by omega) (by omega) rfl rfl rfl (by omega);refine⟨H3,v3,?_,by rw[e,length_append,flatMap_append];exact hv3,hf2.trans hf3 fun j hj=>.inr (hid2 j hj),fun j hj=>?_⟩
   ·funext k;have e2:∀{α:Type} (k:Value→Option α),pLen .str (str l) H2 k=k (.int .i64 (l.length:Int)):=fun k=>by show k (.int .i64 ((ba l).size:Int))=_;rw[zcC]
    simp only[zdX,zad,s_br,hz,decide_true,if_true,e2,s_bspan];rw[hza,hpu,zan]
   ·rcases hid3 j hj with q|q
    ·exact hid2 j q
    ·exact Nat.le_trans hf2.next q
 obtain⟨H3,v3,hlast,hv3,hf3,hid3⟩:=last;have hn:=zgy l 0 none;have hok:=znJ l 0 none (fun a ha=>by cases ha);generalize hL:spn l 0 none=L at *;obtain⟨v4,hmk4,hv4,hid4⟩:=Vec.make H3 (sz:=1) (bytes:=16) (zs:=[str []]) rfl (n:=L.length) (by omega);have hs4:Vec (H3.new (.cells (repl L.length [str []]) true)) 2 v3 L.length (L.flatMap zhP):=hv3.keep (zcz _ _ (fun _=>False)) fun _ _ h=>h;obtain⟨H5,w1,w2,w3⟩:=zlb l hl L (fun p hp=>by have:=hok p hp;omega) (by omega) v3 v4 (fun j hj hj3=>by have:=hid4 j hj;have:=hv3.lt hj3;omega) L.length 0 _ (by omega) hs4 (by simpa using hv4);have hw:zbN l=L.map (zdp l):=by unfold zbN;rw[hL]
 refine⟨v4,H5,?_,by rw[hw,length_map];exact w2,?_,fun j hj=>?_⟩
 ·refine(zfc E0 rfl _ _ H).trans ?_;rw[zfe];have hmk':∀(α:Type) (k:Value→Hp→Option α),zaY 2 16 [.int .i64 0,.int .i64 0] (.int .i64 0) (.int .i64 32) H k=k v1 H1:=hmk;have hmk4':∀(α:Type) (k:Value→Hp→Option α),zaY 1 16 [Value.string ⟨#[]⟩] (.int .i64 (L.length:Int)) (.int .i64 (L.length:Int)) H3 k=k v4 (H3.new (.cells (repl L.length [str []]) true)):=hmk4;rw[hmk'];show (zaw (zau (zaL RR spF) [v1,.int .i64 (-1),zc7 l 0] H1) _)=_;rw[g1,zan,za6,zaC];refine(congrFun hlast _).trans ?_;rw[za3];simp only[qg0];rw[hv3.len,hmk4',hv3.len];have w1':zau (zaS RR (str l) v4 (.int .i64 (L.length:Int)) [v3]) [.int .i64 0] (H3.new (.cells (repl L.length [str []]) true))=some (.exit 2,[.int .i64 (L.length:Int)],H5):=w1;rw[w1',zan,za6,zaC]
 ·refine hf3.trans ((zcz _ _ (fun _=>False)).trans w3 fun j hj=>.inr (by rw[hid4 j hj];exact Nat.le_refl _)) fun j hj=>.inl hj
 ·rw[hid4 j hj];exact hf3.next
def Wds(H:Hp)(v:Value)(ws:List (List UInt8)):Prop:=
 (ws=[]∧v=.slice none 0 0)∨∃y c pre rest own,v=.slice (some ⟨y,pre.length,some 1⟩) ws.length c∧ws.length≤c∧H.get y=some (.cells (pre++ws.map str++rest) own)∧y<H.next
theorem Vec.wds{H:Hp}{v:Value}{ws:List (List UInt8)}(h:Vec H 1 v ws.length (ws.map str)):Wds H v ws:=by
 rcases h with⟨h1,h2,h3⟩|⟨y,c,rest,h1,h2,h3,h4,h5,h6,h7⟩
 ·exact .inl ⟨length_eq_zero_iff.1 h1,h3⟩
 ·exact .inr ⟨y,c,[],rest,true,h1,h2,by simpa using h3,h6⟩
theorem Wds.len{H:Hp}{v:Value}{ws:List (List UInt8)}(h:Wds H v ws){α:Type}(H':Hp)(k:Value→Option α):pLen .sl v H' k=k (.int .i64 (ws.length:Int)):=by rcases h with⟨rfl,rfl⟩|⟨y,c,pre,rest,own,rfl,_⟩<;>rfl
theorem Wds.keep{M:Nat→Prop}{H H':Hp}{v:Value}{ws:List (List UInt8)}(h:Wds H v ws)(k:Frm M H H')(hm:∀j,Id v j→¬M j):Wds H' v ws:=by
 rcases h with h|⟨y,c,pre,rest,own,rfl,h1,h2,h3⟩
 ·exact .inl h
 ·exact .inr ⟨y,c,pre,rest,own,rfl,h1,by rw[k.same y h3 (hm y rfl)];exact h2,Nat.lt_of_lt_of_le h3 k.next⟩
theorem Wds.head{H:Hp}{v:Value}{w:List UInt8}{ws:List (List UInt8)}(h:Wds H v (w::ws)):∃v',(∀(α:Type) (k:Value→Option α),(pIdx 1 v (.int .i64 0) fun p=>zak 1 false H p k)=k (str w))∧(∀(α:Type) (k:Value→Option α),zda 1 v (some (.int .i64 1)) none k=k v')∧Wds H v' ws∧(∀j,Id v' j→Id v j):=by
 rcases h with⟨h,_⟩|⟨y,c,pre,rest,own,rfl,h1,h2,h3⟩
 ·cases h
 ·rw[length_cons]at h1;refine⟨.slice (some ⟨y,pre.length+1,some 1⟩) ws.length (c-1),fun α k=>?_,fun α k=>?_,.inr ⟨y,c-1,pre++[str w],rest,own,by simp,by omega,by simpa using h2,h3⟩,fun j hj=>hj⟩
  ·have e:idxV 1 (.slice (some ⟨y,pre.length,some 1⟩) (w::ws).length c) (.int .i64 0)=some (.pointer (some ⟨y,pre.length,none⟩)):=by unfold idxV;dsimp only;rw[if_pos ⟨rfl,by omega,by rw[length_cons];omega⟩];rfl
   unfold pIdx;rw[e];dsimp only;refine zbi h2 pre.length (str w) ?_ k;simp
  ·have e:zgW 1 (.slice (some ⟨y,pre.length,some 1⟩) (w::ws).length c) (some (.int .i64 1)) none=some (.slice (some ⟨y,pre.length+1,some 1⟩) ws.length (c-1)):=by unfold zgW;dsimp only[zdb];rw[if_pos ⟨rfl,by omega,by rw[length_cons];omega,by rw[length_cons];omega⟩];simp
   unfold zda;rw[e]
abbrev zcd(e:Int):Value:=.iface Ad (.agg #[.int .i64 e])
theorem zb9{α:Type}(e:Int)(k:Value→Option α):zaE PP Ad [(0,.int .i64 e)] k=k (.agg #[.int .i64 e]):=by
 have:zgt PP Ad [(0,.int .i64 e)]=some (.agg #[.int .i64 e]):=by kernel_rfl
 unfold zaE;rw[this]
theorem next_none{H:Hp}{p:Nat}{sp wv tv:Value}(hp:H.get p=some (.cells [sp,wv,tv] true))(hw:Wds H wv []):RR Ap [.pointer (some ⟨p,0,none⟩)] H=some (W0 (zcd 3),H):=by refine(zdG E0 rfl _ H).trans ?_;unfold zcv;have hl:=fun (α:Type) (k:Value→Option α)=>zbi hp (0+1) wv rfl k;simp only[zbA,zaK,hl,hw.len,zaZ,zad,s_br,length_nil,Int.ofNat_zero,decide_true,if_true,zb9]
theorem next_some{H:Hp}{p:Nat}{sp wv tv:Value}(hp:H.get p=some (.cells [sp,wv,tv] true)){w:List UInt8}{ws:List (List UInt8)}(hw:Wds H wv (w::ws))(hne:¬Id wv p):∃H' wv',RR Ap [.pointer (some ⟨p,0,none⟩)] H=some (W1 (str w),H')∧H'.get p=some (.cells [sp,wv',tv] true)∧Wds H' wv' ws∧(∀j,Id wv' j→Id wv j)∧Frm (· = p) H H'∧H'.next=H.next:=by
 obtain⟨wv',h1,h2,h3,h4⟩:=hw.head;have hwr:H.wr (.pointer (some ⟨p,0+1,none⟩)) 1 wv'=some (H.set p (some (.cells [sp,wv',tv] true))):=by
  have hc:zab wv'=[wv']:=by rcases h3 with⟨_,rfl⟩|⟨y,c,pre,rest,own,rfl,_⟩<;>rfl
  have ho:one wv'=true:=by rcases h3 with⟨_,rfl⟩|⟨y,c,pre,rest,own,rfl,_⟩<;>rfl
  have hw2:zbm 1 [sp,wv,tv] (0+1) wv'=some [sp,wv',tv]:=by unfold zbm;rw[hc,if_pos ⟨rfl,by simp,by simp[ho]⟩];rfl
  show (match H.get p with|some (.cells cs true)=>(match zbm 1 cs (0+1) wv' with|some cs'=>some (H.set p (some (.cells cs' true)))|none=>none)|_=>none)=_;rw[hp];dsimp only;rw[hw2]
 have hfr:Frm (· = p) H (H.set p (some (.cells [sp,wv',tv] true))):=zfm _ _ _ _ rfl;refine⟨_,wv',?_,by rw[get_set,if_pos rfl],h3.keep hfr fun j hj e=>hne (e▸h4 j hj),h4,hfr,rfl⟩;refine(zdG E0 rfl _ H).trans ?_;unfold zcv;have hl:=fun (α:Type) (k:Value→Option α)=>zbi hp (0+1) wv rfl k;have hz:¬(((w::ws).length:Int)=0):=by rw[length_cons];omega
 simp only[zbA,zaK,hl,hw.len,zaZ,zad,s_br,hz,decide_false,Bool.false_eq_true,if_false];rw[h1,h2];unfold zas;rw[hwr]
end Go.AM
namespace Go.AM
open Go
def hexV(n:Nat):Int:=if 48≤n∧n≤57 then (n:Int)-48 else if 97≤n∧n≤102 then (n:Int)-87 else if 65≤n∧n≤70 then (n:Int)-55 else -1
def digV(n base:Nat):Int:=if hexV n<0∨(base:Int)≤hexV n then -1 else hexV n
theorem hexV_lt(n:Nat):-1≤hexV n∧hexV n≤15:=by
 unfold hexV;split
 ·omega
 ·split
  ·omega
  ·split<;>omega
def numL(base:Nat):List UInt8→Nat→Option Nat
 |[],v=>some v
 |b::r,v=>if digV b.toNat base<0 then none else if v>(18446744073709551615-(digV b.toNat base).toNat)/base then none else numL base r (v*base+(digV b.toNat base).toNat)
def badN:Value:=.tuple #[.int .u64 0,.int .i64 10]
theorem digV_lt(n base:Nat):digV n base=-1∨(0≤digV n base∧digV n base<base∧digV n base≤15):=by
 have:=hexV_lt n;unfold digV;split
 ·exact .inl rfl
 ·right;omega
theorem u64{a:Int}(h0:0≤a)(h1:a≤18446744073709551615):IntKind.u64.wrap a=a:=zco (k:=.u64) h0 h1
def numP(l:List UInt8):Option Nat:=
 if l[0]?=some 48∧l[1]?=some 120 then (if l.length=2 then none else numL 16 (l.drop 2) 0) else (if l.length=0 then none else numL 10 l 0)
def numV:Option Nat→Value
 |some x=>.tuple #[.int .u64 (x:Int),.int .i64 0]
 |none=>badN
def zcc(l:List UInt8):Int:=
 match numP l with
 |some x=>if x<2147483648 then (x:Int) else -1
 |none=>-1
end Go.AM
namespace Go.AM
open List Go
def lowB(n:Nat):Nat:=if n%64<32 then n+32 else n
theorem lowB_all:((List.range 256).all fun n=>match zeq .or .u8 (n:Int) 32 with|some (.int .u8 m)=>m==(lowB n:Int)|_=>false)=true:=by kernel_rfl
theorem s_low(n:Nat)(hn:n<256){α:Type}(T:TypeId)(k:Value→Option α):pBin PP .or T (.int .u8 (n:Int)) (.int .u8 32) k=k (.int .u8 (lowB n:Int)):=by
 have h:=all_eq_true.1 lowB_all n (mem_range.2 hn);have e:zeq .or .u8 (n:Int) 32=some (.int .u8 (lowB n:Int)):=by
  split at h
  ·rename_i m hm;rw[hm,eq_of_beq h]
  ·cases h
 have:binV PP .or T (.int .u8 (n:Int)) (.int .u8 32)=some (.int .u8 (lowB n:Int)):=e;unfold pBin;rw[this]
theorem c_lower(n:Nat)(hn:n<256)(H:Hp):RR As [.int .u8 (n:Int)] H=some (.int .u8 (lowB n:Int),H):=by refine(zd9 E0 rfl _ H).trans ?_;unfold zcl;rw[s_low n hn]
def pd(n:Nat):Option Nat:=if 48≤n∧n≤57 then some (n-48) else if 97≤lowB n∧lowB n≤122 then some (lowB n-97+10) else none
def pdOk(n base:Nat):Bool:=match pd n with
 |none=>digV n base==-1
 |some d=>d<36&&(if d<base then digV n base==(d:Int) else digV n base==-1)
theorem pd_all:((List.range 256).all fun n=>pdOk n 10&&pdOk n 16)=true:=by kernel_rfl
theorem pd_none{n base:Nat}(hn:n<256)(hb:base=10∨base=16)(h:pd n=none):digV n base=-1:=by
 have:=all_eq_true.1 pd_all n (mem_range.2 hn);rw[Bool.and_eq_true]at this;have:pdOk n base=true:=by rcases hb with rfl|rfl;exact this.1;exact this.2
 unfold pdOk at this;rw[h]at this;exact eq_of_beq this
theorem pd_some{n base d:Nat}(hn:n<256)(hb:base=10∨base=16)(h:pd n=some d):d<36∧(d<base→digV n base=(d:Int))∧(base≤d→digV n base=-1):=by
 have:=all_eq_true.1 pd_all n (mem_range.2 hn);rw[Bool.and_eq_true]at this;have:pdOk n base=true:=by rcases hb with rfl|rfl;exact this.1;exact this.2
 unfold pdOk at this;rw[h]at this;dsimp only at this;rw[Bool.and_eq_true,decide_eq_true_eq]at this;refine⟨this.1,fun q=>?_,fun q=>?_⟩
 ·have h2:=this.2;rw[if_pos q]at h2;exact eq_of_beq h2
 ·have h2:=this.2;rw[if_neg (by omega)]at h2;exact eq_of_beq h2
def zgs(l:List UInt8):List Value:=l.map fun b=>Value.int .u8 (b.toNat:Int)
def errP(u c:Int):Value:=.tuple #[.int .u64 u,.iface Ag (.int .i64 c)]
theorem u8w{a:Int}(h0:0≤a)(h1:a≤255):IntKind.u8.wrap a=a:=zco (k:=.u8) h0 h1
def maxU:Value:=.int .u64 18446744073709551615
theorem u64mod{a:Nat}(h:18446744073709551616≤a)(h2:a<2*18446744073709551616):IntKind.u64.wrap (a:Int)=((a-18446744073709551616:Nat):Int):=by simp[IntKind.wrap,IntKind.signed,IntKind.bits];omega
def ParQ(v base:Nat)(d:Int)(i:Nat)(H:Hp)(r:Outc):Prop:=
 ((d<0∨v>(18446744073709551615-d.toNat)/base)→∃u c,(c=1∨c=2)∧r=(.ret,[errP u c],H)) ∧
 (¬(d<0∨v>(18446744073709551615-d.toNat)/base)→r=(.next,[.bool false,.int .u64 ((v*base+d.toNat:Nat):Int),.int .i64 ((i+1:Nat):Int)],H))
theorem ParQ.bad{v base:Nat}{d:Int}{i:Nat}{H:Hp}(h:d<0∨v>(18446744073709551615-d.toNat)/base)(u c:Int)(hc:c=1∨c=2):ParQ v base d i H (.ret,[errP u c],H):=⟨fun _=>⟨u,c,hc,rfl⟩,fun q=>absurd h q⟩
theorem par_step(l:List UInt8)(hl:l.length≤2^40)(base:Nat)(hb:base=10∨base=16)(xs vb:Value)(H:Hp)(hv:Rdb H 1 vb l.length (zgs l))(i v:Nat)(b:UInt8)(hget:l[i]?=some b)(hv2:v≤18446744073709551615) :
  ∃r,zaI RR (.bool false) maxU vb (.int .i64 (l.length:Int)) [xs,.int .i64 (base:Int)] [.int .u64 ((18446744073709551615/base+1:Nat):Int)] [.bool false,.int .u64 (v:Int),.int .i64 (i:Int)] H=some r ∧
   ParQ v base (digV b.toNat base) i H r:=by
 have hi:i<l.length:=(List.getElem?_eq_some_iff.1 hget).1;obtain⟨y,hy,⟨rest,own,hg⟩,hix⟩:=hv.ix hi;have hix':∀(α:Type) (k:Value→Option α),pIdx 1 vb (.int .i64 (i:Int)) k=k (.pointer (some ⟨y,i,none⟩)):=fun α k=>by have:=hix α .i64 k;rwa [Nat.mul_one]at this
 have hld:∀(α:Type) (k:Value→Option α),zak 1 false H (.pointer (some ⟨y,i,none⟩)) k=k (.int .u8 (b.toNat:Int)):=fun α k=>zbi hg i _ (by
  rw[List.getElem?_append_left (by simpa[zgs] using hi)]
  simp[zgs,hget]) k
 have hn:=UInt8.toNat_lt b;generalize b.toNat=n at hn hld ⊢;have h1:((i:Int)<(l.length:Int)):=by omega
 have hlow:=c_lower n hn H;have hbase8:∀(α:Type) (k:Value→Option α),zaq .u8 (.int .i64 (base:Int)) k=k (.int .u8 (base:Int)):=fun α k=>by show k (.int .u8 (IntKind.u8.wrap (base:Int)))=_;rw[u8w (by omega) (by omega)]
 have hbase64:∀(α:Type) (k:Value→Option α),zaq .u64 (.int .i64 (base:Int)) k=k (.int .u64 (base:Int)):=fun α k=>by show k (.int .u64 (IntKind.u64.wrap (base:Int)))=_;rw[u64 (by omega) (by omega)]
 have hinc:IntKind.i64.wrap ((i:Int)+1)=((i+1:Nat):Int):=w64 (by omega) (by omega);have tailD:∀d:Nat,pd n=some d→d<36→∃r:Outc,
   (zaq .u8 (.int .i64 (base:Int)) fun v131=>
    pBin PP .geq Ah (.int .u8 (d:Int)) v131 fun v132=>
    zaa v132 fun b133=>br b133
    (some (Ctl.ret,[(.tuple #[(.int .u64 0),(.iface Ag (.int .i64 2))])],H))
    (pBin PP .geq Ab (.int .u64 (v:Int)) (.int .u64 ((18446744073709551615/base+1:Nat):Int)) fun v134=>
    zaa v134 fun b135=>br b135
    (some (Ctl.ret,[(.tuple #[maxU,(.iface Ag (.int .i64 1))])],H))
    (zaq .u64 (.int .i64 (base:Int)) fun v136=>
    pBin PP .mul Ab (.int .u64 (v:Int)) v136 fun v137=>
    zaq .u64 (.int .u8 (d:Int)) fun v138=>
    pBin PP .add Ab v137 v138 fun v139=>
    pBin PP .lss Ab v139 v137 fun v140=>
    zaa v140 fun b141=>br b141
    (some (Ctl.ret,[(.tuple #[maxU,(.iface Ag (.int .i64 1))])],H))
    (pBin PP .gtr Ab v139 maxU fun v142=>
    zaa v142 fun b143=>br b143
    (some (Ctl.ret,[(.tuple #[maxU,(.iface Ag (.int .i64 1))])],H))
    (pBin PP .add Aa (.int .i64 (i:Int)) (.int .i64 1) fun v144=>
    some (Ctl.next,[.bool false,v139,v144],H))))))=some r ∧
   ParQ v base (digV n base) i H r:=by
  intro d hd hd36;obtain⟨_,hlt,hge⟩:=pd_some hn hb hd;rw[hbase8];by_cases hdb:base≤d
  ·have hq:digV n base<0:=by rw[hge hdb];decide
   have:((d:Int)≥(base:Int)):=by omega
   simp only[zdX,zad,s_br,this,decide_true,if_true];exact⟨_,rfl,ParQ.bad (.inl hq) 0 2 (.inr rfl)⟩
  ·have hdv:=hlt (by omega);rw[hdv];have hdb':¬((d:Int)≥(base:Int)):=by omega
   have hd0:¬((d:Int)<0):=by omega
   have hcd:∀(α:Type) (k:Value→Option α),zaq .u64 (.int .u8 (d:Int)) k=k (.int .u64 (d:Int)):=fun α k=>by show k (.int .u64 (IntKind.u64.wrap (d:Int)))=_;rw[u64 (by omega) (by omega)]
   by_cases hc:v≥18446744073709551615/base+1
   ·have hq:v>(18446744073709551615-d)/base:=by have:(18446744073709551615-d)/base≤18446744073709551615/base:=Nat.div_le_div_right (by omega);omega
    have hc':((v:Int)≥((18446744073709551615/base+1:Nat):Int)):=by omega
    simp only[zdX,zad,s_br,hdb',hc',decide_true,decide_false,Bool.false_eq_true,if_true,if_false];exact⟨_,rfl,ParQ.bad (.inr hq) _ 1 (.inl rfl)⟩
   ·have hc':¬((v:Int)≥((18446744073709551615/base+1:Nat):Int)):=by omega
    have hb0:0<base:=by omega
    have hm:v*base≤18446744073709551615:=by
     have:v≤18446744073709551615/base:=by omega
     exact(Nat.le_div_iff_mul_le hb0).1 this
    have hmul:IntKind.u64.wrap ((v:Int)*(base:Int))=((v*base:Nat):Int):=by rw[←Int.natCast_mul];exact u64 (by omega) (by omega)
    by_cases ho:v*base+d≤18446744073709551615
    ·have hq:¬(v>(18446744073709551615-d)/base):=by have:v≤(18446744073709551615-d)/base:=(Nat.le_div_iff_mul_le hb0).2 (by omega);omega
     have hadd:IntKind.u64.wrap (((v*base:Nat):Int)+(d:Int))=((v*base+d:Nat):Int):=by rw[←Int.natCast_add];exact u64 (by omega) (by omega)
     have e1:¬(((v*base+d:Nat):Int)<((v*base:Nat):Int)):=by omega
     have e2:¬(((v*base+d:Nat):Int)>18446744073709551615):=by omega
     simp only[zdX,zad,s_br,hdb',hc',decide_true,decide_false,Bool.false_eq_true,if_true,if_false,hbase64,s_mul,hmul,hcd,zaU,hadd,zbh,e1,maxU,zb8,e2,hinc];exact⟨_,rfl,fun q=>absurd q (by intro q;rcases q with q|q;exact hd0 q;exact hq q),fun _=>rfl⟩
    ·have hq:(v>(18446744073709551615-d)/base):=by
      rcases Nat.lt_or_ge ((18446744073709551615-d)/base) v with q|q
      ·exact q
      ·have:=(Nat.le_div_iff_mul_le hb0).1 q;omega
     have hadd:IntKind.u64.wrap (((v*base:Nat):Int)+(d:Int))=((v*base+d-18446744073709551616:Nat):Int):=by rw[←Int.natCast_add];exact u64mod (by omega) (by omega)
     have e1:(((v*base+d-18446744073709551616:Nat):Int)<((v*base:Nat):Int)):=by omega
     simp only[zdX,zad,s_br,hdb',hc',decide_true,decide_false,Bool.false_eq_true,if_true,if_false,hbase64,s_mul,hmul,hcd,zaU,hadd,zbh,e1];exact⟨_,rfl,ParQ.bad (.inr hq) _ 1 (.inl rfl)⟩
 have bad:pd n=none→ParQ v base (digV n base) i H (Ctl.ret,[Value.tuple #[(.int .u64 0),(.iface Ag (.int .i64 2))]],H):=fun hp=>
  ParQ.bad (.inl (by rw[pd_none hn hb hp];decide)) 0 2 (.inr rfl)
 have hl256:lowB n<288:=by unfold lowB;split<;>omega
 unfold zaI;simp only[qg0,qg1,zbh,zad,s_br,h1,decide_true,if_true,hix',hld];have e95:(zaw (pBin PP .eql Ah (.int .u8 (n:Int)) (.int .u8 95) fun v91=>zaa v91 fun b92=>br b92 (some (.next,[Value.bool false],H)) (some (.next,[(.bool false)],H))):(Ctl→List Value→Hp→Option Outc)→Option Outc)=fun k=>k .next [.bool false] H:=by funext k;rw[zaZ,zad,s_br];split<;>rfl
 have e95':=fun k=>congrFun e95 k;simp only[zad,s_br]at e95';rw[e95',za3];simp only[qg0,zad,s_br,Bool.false_eq_true,if_false,zft];by_cases q1:(48:Int)≤(n:Int)<;>by_cases q2:(n:Int)≤57
 ·have hp:pd n=some (n-48):=by unfold pd;rw[if_pos ⟨by omega,by omega⟩]
  have hs:IntKind.u8.wrap ((n:Int)-48)=((n-48:Nat):Int):=by rw[u8w (by omega) (by omega)];omega
  have hT:=tailD _ hp (by omega);simp only[zft,zad,s_br,q1,q2,decide_true,if_true,zd5,hs,zaU,zan,za3,qg0,qg1]at hT ⊢;exact hT
 all_goals
  have hno:¬(48≤n∧n≤57):=by omega
  by_cases q3:(97:Int)≤(lowB n:Int)<;>by_cases q4:(lowB n:Int)≤122
  ·have hp:pd n=some (lowB n-97+10):=by unfold pd;rw[if_neg hno,if_pos ⟨by omega,by omega⟩]
   have hs:IntKind.u8.wrap ((lowB n:Int)-97)=((lowB n-97:Nat):Int):=by rw[u8w (by omega) (by omega)];omega
   have ha:IntKind.u8.wrap (((lowB n-97:Nat):Int)+10)=((lowB n-97+10:Nat):Int):=by rw[u8w (by omega) (by omega)];omega
   have hT:=tailD _ hp (by omega);simp only[zft,zad,s_br,q1,q2,q3,q4,decide_true,decide_false,Bool.false_eq_true,if_true,if_false,zag hlow,zd5,hs,zaU,ha,zan,za3,qg0,qg1]at hT ⊢;exact hT
  all_goals
   have hp:pd n=none:=by unfold pd;rw[if_neg hno,if_neg (by omega)]
   simp only[zft,zad,s_br,q1,q2,q3,q4,decide_true,decide_false,Bool.false_eq_true,if_true,if_false,zag hlow,zan,zeK,headD_cons];exact⟨_,rfl,bad hp⟩
theorem zn5(l:List UInt8)(hl:l.length≤2^40)(base:Nat)(hb:base=10∨base=16)(xs vb:Value)(H:Hp)(hv:Rdb H 1 vb l.length (zgs l)):∀(rest:List UInt8) (i v:Nat),l.drop i=rest→i≤l.length→v≤18446744073709551615 →
  ∃r,zau (zaI RR (.bool false) maxU vb (.int .i64 (l.length:Int)) [xs,.int .i64 (base:Int)] [.int .u64 ((18446744073709551615/base+1:Nat):Int)]) [.bool false,.int .u64 (v:Int),.int .i64 (i:Int)] H=some r ∧
   match numL base rest v with
   |some x=>r=(.exit 3,[.bool false,.int .u64 (x:Int),.int .i64 (l.length:Int)],H)
   |none=>∃u c,(c=1∨c=2)∧r=(.ret,[errP u c],H)
 |[],i,v,hr,hi,hv2=>by
  have hil:i=l.length:=by have:=congrArg List.length hr;rw[length_drop]at this;simp at this;omega
  have this:zaI RR (.bool false) maxU vb (.int .i64 (l.length:Int)) [xs,.int .i64 (base:Int)] [.int .u64 ((18446744073709551615/base+1:Nat):Int)] [.bool false,.int .u64 (v:Int),.int .i64 (i:Int)] H=some (.exit 3,[.bool false,.int .u64 (v:Int),.int .i64 (i:Int)],H):=by
   unfold zaI;have h1:¬((i:Int)<(l.length:Int)):=by omega
   simp only[qg0,qg1,zbh,zad,s_br,h1,decide_false,Bool.false_eq_true,if_false]
  subst hil;exact⟨_,(by rw[zah,this];rfl),rfl⟩
 |b::r,i,v,hr,hi,hv2=>by
  have hlt:i<l.length:=by have:=congrArg List.length hr;rw[length_drop]at this;simp at this;omega
  have hget:l[i]?=some b:=by have:=congrArg (fun x=>x[0]?) hr;simpa using this
  have hr2:l.drop (i+1)=r:=by rw[←drop_drop,hr];rfl
  obtain⟨o,h1,h2⟩:=par_step l hl base hb xs vb H hv i v b hget hv2;unfold numL;by_cases h0:digV b.toNat base<0
  ·rw[if_pos h0];obtain⟨u,c,hc,rfl⟩:=h2.1 (.inl h0);exact⟨_,(by rw[zah,h1];rfl),u,c,hc,rfl⟩
  ·rw[if_neg h0];by_cases h3:v>(18446744073709551615-(digV b.toNat base).toNat)/base
   ·rw[if_pos h3];obtain⟨u,c,hc,rfl⟩:=h2.1 (.inr h3);exact⟨_,(by rw[zah,h1];rfl),u,c,hc,rfl⟩
   ·rw[if_neg h3];have h2:=h2.2 (by intro q;rcases q with q|q;exact h0 q;exact h3 q);subst h2;have hd:=digV_lt b.toNat base;have hm:v*base≤18446744073709551615-(digV b.toNat base).toNat:=by
     have:v≤(18446744073709551615-(digV b.toNat base).toNat)/base:=by omega
     exact(Nat.le_div_iff_mul_le (by omega)).1 this
    rw[zah,h1];exact zn5 l hl base hb xs vb H hv r (i+1) _ hr2 hlt (by omega)
end Go.AM
namespace Go.AM
open Go
theorem run_ext{P:Program}{O:Orc}{ext:FuncId→Option (List Value→Hp→Option (Value×Hp))}{g:FuncId}{fn:Func}{e:List Value→Hp→Option (Value×Hp)}(hf:P.funcs[g]?=some fn)(hn:(fn.name == "runtime.NumGoroutine")=false)(hb:fn.body.isSome=true)(hx:ext g=some e)(xs:List Value)(H:Hp) :
  run P O ext g xs H=e xs H:=by
 rw[run_eq];unfold zhp;rw[hf];dsimp only;rw[hn];dsimp only;obtain⟨c,hc⟩:=Option.isSome_iff_exists.1 hb;rw[hc];dsimp only;rw[hx]
def bv(l:List UInt8):List Value:=l.map fun b=>Value.int .u8 (b.toNat:Int)
section
end
section
end
structure Tabs(H:Hp):Prop where
 pow:∃cs e fz,H.get AE=some (.fix (.cells cs e fz))∧zkg .u64 cs.toList zo4=true
 spc:∃cs e fz,H.get AD=some (.fix (.cells cs e fz))∧zkg .u8 cs.toList zjm=true
 bru:∃cs e fz,H.get AR=some (.fix (.cells cs e fz))∧cs.toList[15]?=some (.int .u8 4)
end Go.AM
namespace Go.AM
open List Go
theorem zfs{α:Type}(T:TypeId)(a b:List UInt8)(k:Value→Option α):pBin PP .eql T (str a) (str b) k=k (.bool (a==b)):=by show pBin PP .eql T (.string (ba a)) (.string (ba b)) k=_;rw[znO,zi2,zi2]
theorem znN{α:Type}(l:List UInt8)(H:Hp)(k:Value→Option α):pLen .str (str l) H k=k (.int .i64 (l.length:Int)):=by show k (.int .i64 ((ba l).size:Int))=_;rw[zcC]
theorem zlp{α:Type}(l:List UInt8)(hl:l.length≤2^40)(H:Hp)(k:Value→Hp→Option α):zdk (str l) H k=k (.slice (some ⟨H.next,0,some 1⟩) l.length l.length) (H.new (.cells (zgs l) true)):=by show (if (ba l).size≤2^47 then k (.slice (some ⟨H.next,0,some 1⟩) (ba l).size (ba l).size) (H.new (.cells ((ba l).data.toList.map fun b=>.int .u8 (b.toNat:Int)) true)) else none)=_;rw[zcC,zi2,if_pos (by omega)];rfl
theorem u8conv:IntKind.u64.wrap 64=64:=by decide
theorem shl64{α:Type}(T:TypeId)(k:Value→Option α):pBin PP .shl T (.int .u64 1) (.int .u64 64) k=k (.int .u64 0):=by
 have:binV PP .shl T (.int .u64 1) (.int .u64 64)=some (.int .u64 0):=by show shOp .shl .u64 1 64=_;kernel_rfl
 unfold pBin;rw[this]
def numB(base:Nat)(l:List UInt8):Option Nat:=if l=[] then none else numL base l 0
theorem c_iparse(l:List UInt8)(hl:l.length≤2^40)(base:Nat)(hb:base=10∨base=16)(H:Hp):∃r H',RR AZ [str l,.int .i64 (base:Int),.int .i64 64] H=some (r,H')∧Frm (fun _=>False) H H' ∧
  match numB base l with
  |some x=>r=.tuple #[.int .u64 (x:Int),.nilIface]
  |none=>∃u c,(c=1∨c=2)∧r=errP u c:=by
 by_cases h0:l=[]
 ·refine⟨errP 0 2,H,?_,Frm.refl _ _,?_⟩
  ·refine(zb2 E0 rfl _ _ _ H).trans ?_;rw[zb5];have he:∀{α:Type} (k:Value→Option α),pBin PP .eql Ac (str l) (.string ⟨#[]⟩) k=k (.bool (l==[])):=fun k=>zfs Ac l [] k;rw[he,h0,zad,s_br,if_pos (by rfl)];rfl
  ·unfold numB;rw[if_pos h0];exact⟨0,2,.inr rfl,rfl⟩
 ·let H1:=H.new (.cells (zgs l) true)
  have hv:Rdb H1 1 (.slice (some ⟨H.next,0,some 1⟩) l.length l.length) l.length (zgs l):=
   .inr ⟨H.next,l.length,[],true,rfl,Nat.le_refl _,by rw[append_nil];exact if_pos rfl,by simp[zgs],by show H.next<H.next+1;omega⟩
  have hf:Frm (fun _=>False) H H1:=zcz _ _ _;obtain⟨o,h1,h2⟩:=zn5 l hl base hb (str l) _ H1 hv l 0 0 rfl (Nat.zero_le _) (by omega);have hrun:RR AZ [str l,.int .i64 (base:Int),.int .i64 64] H=zaw (some o) fun q146 l147 H148=>zaG q146 none
    (fun i149=>zax i149 3 (
    zaa (l147.getD 0 undef) fun b150=>br b150
    (zae RR B1 [str l] H148 fun r151 H152=>
    pUn .not r151 fun v153=>
    zaa v153 fun b154=>br b154
    (some ((.tuple #[(.int .u64 0),(.iface Ag (.int .i64 2))]),H152))
    (some ((.tuple #[(l147.getD 1 undef),.nilIface]),H152)))
    (some ((.tuple #[(l147.getD 1 undef),.nilIface]),H148))) (
    none))
    (some ((l147.headD undef),H148)):=by
   refine(zb2 E0 rfl _ _ _ H).trans ?_;rw[zb5];have he:∀{α:Type} (k:Value→Option α),pBin PP .eql Ac (str l) (.string ⟨#[]⟩) k=k (.bool (l==[])):=fun k=>zfs Ac l [] k;have hne:(l==[])=false:=by rw[beq_eq_false_iff_ne];exact h0
   have b0:¬((base:Int)=0):=by omega
   have b1:(2:Int)≤(base:Int):=by omega
   have b2:(base:Int)≤36:=by omega
   have c0:¬((64:Int)=0):=by decide
   have c1:¬((64:Int)<0):=by decide
   have c2:¬((64:Int)>64):=by decide
   have hcv:∀{α:Type} (k:Value→Option α),zaq .u64 (.int .i64 64) k=k (.int .u64 64):=fun k=>by show k (.int .u64 (IntKind.u64.wrap 64))=_;rw[u8conv]
   have hsub:∀{α:Type} (k:Value→Option α),pBin PP .sub Ab (.int .u64 0) (.int .u64 1) k=k maxU:=fun k=>by rw[zd5];rfl
   have hlen:∀{α:Type} (k:Value→Option α),pLen .sl (.slice (some ⟨H.next,0,some 1⟩) l.length l.length) (H.new (.cells (zgs l) true)) k=k (.int .i64 (l.length:Int)):=fun k=>rfl;simp only[he,hne,zad,s_br,Bool.false_eq_true,if_false,zaZ,b0,b1,b2,decide_false,decide_true,if_true,zft,zan,za3,qg0,qg1,c0,c1,c2,zbh,zb8];rcases hb with rfl|rfl
   ·have d0:((10:Nat):Int)=10:=rfl;simp only[d0,decide_true,if_true,zan,za3,hcv,shl64,hsub,zlp l hl,hlen];exact congrArg (fun z=>zaw z _) h1
   ·have d0:¬((16:Int)=10):=by decide
    have d1:((16:Nat):Int)=16:=rfl;simp only[d0,d1,decide_true,decide_false,Bool.false_eq_true,if_false,if_true,zan,za3,hcv,shl64,hsub,zlp l hl,hlen];exact congrArg (fun z=>zaw z _) h1
  unfold numB;rw[if_neg h0];cases hn:numL base l 0 with
  |some x=>
   rw[hn]at h2;subst h2;exact⟨_,H1,hrun,hf,rfl⟩
  |none=>
   rw[hn]at h2;obtain⟨u,c,hc,rfl⟩:=h2;exact⟨_,H1,hrun,hf,u,c,hc,rfl⟩
structure Laid(H:Hp):Prop where
 next:PP.globals.size≤H.next
 tabs:Tabs H
 syn:∃cs ty fz,H.get Aw=some (.fix (.cells cs ty fz))∧isErr cs.toList=true
 rng:∃cs ty fz,H.get Ax=some (.fix (.cells cs ty fz))∧isErr cs.toList=true
theorem Laid.keep{H H':Hp}{M:Nat→Prop}(h:Laid H)(k:Frm M H H')(hm:∀j,M j→PP.globals.size≤j):Laid H':=by
 have e:∀g,g<PP.globals.size→H'.get g=H.get g:=fun g hg=>k.same g (by have:=h.next;omega) fun q=>by have:=hm g q;omega
 exact⟨Nat.le_trans h.next k.next,⟨by rw[e _ (by rw[zjc];decide)];exact h.tabs.pow,by rw[e _ (by rw[zjc];decide)];exact h.tabs.spc,by rw[e _ (by rw[zjc];decide)];exact h.tabs.bru⟩,
  by rw[e _ (by rw[zjc];decide)];exact h.syn,by rw[e _ (by rw[zjc];decide)];exact h.rng⟩
theorem c_toerr(fn:ByteArray)(l:List UInt8)(hl:l.length≤2^40)(b:Int)(c:Int)(hc:c=1∨c=2)(H:Hp)(hL:Laid H) :
  ∃t v,RR A0 [.string fn,str l,.int .i64 b,.int .i64 64,.iface Ag (.int .i64 c)] H=some (.iface t v,H.skip):=by
 refine⟨BR,.pointer (some ⟨H.next,0,none⟩),?_⟩;have hE:E0 A0=some zmh:=rfl;have:RR A0 [.string fn,str l,.int .i64 b,.int .i64 64,.iface Ag (.int .i64 c)] H=zmh [.string fn,str l,.int .i64 b,.int .i64 64,.iface Ag (.int .i64 c)] H:=run_ext Go.Proofs.Tryz.func161 (by kernel_rfl) (by kernel_rfl) hE _ _;rw[this];have hg:∃cs ty fz,H.get (if c=2 then Aw else Ax)=some (.fix (.cells cs ty fz))∧isErr cs.toList=true:=by
  rcases hc with rfl|rfl
  ·exact hL.rng
  ·exact hL.syn
 obtain⟨cs,ty,fz,h1,h2⟩:=hg;show (if Ag=Ag∧(ba l).size≤281474976710656∧(c=1∨c=2) then _ else _)=_;rw[if_pos ⟨rfl,by rw[zcC];omega,hc⟩,h1];dsimp only;rw[h2]
theorem skip_fr(H:Hp):Frm (fun _=>False) H H.skip:=⟨by show H.next≤H.next+1;omega,fun _ _ _=>rfl⟩
theorem c_parse(l:List UInt8)(hl:l.length≤2^40)(base:Nat)(hb:base=10∨base=16)(H:Hp)(hL:Laid H):∃r H',RR Bh [str l,.int .i64 (base:Int),.int .i64 64] H=some (r,H')∧Frm (fun _=>False) H H' ∧
  match numB base l with
  |some x=>r=.tuple #[.int .u64 (x:Int),.nilIface]
  |none=>∃u t v,r=.tuple #[.int .u64 u,.iface t v]:=by
 obtain⟨r,H',h1,h2,h3⟩:=c_iparse l hl base hb H;have hrun:=zfx E0 rfl (str l) (.int .i64 (base:Int)) (.int .i64 64) H;unfold zdy at hrun;rw[zag h1]at hrun;cases hn:numB base l with
 |some x=>
  rw[hn]at h3;subst h3;refine⟨_,H',hrun.trans ?_,h2,rfl⟩;rw[x01];rfl
 |none=>
  rw[hn]at h3;obtain⟨u,c,hc,rfl⟩:=h3;obtain⟨t,v,h4⟩:=c_toerr ⟨#[80,97,114,115,101,85,105,110,116]⟩ l hl (base:Int) c hc H' (hL.keep h2 fun j q=>q.elim);refine⟨.tuple #[.int .u64 u,.iface t v],H'.skip,hrun.trans ?_,h2.trans (skip_fr H') fun j q=>q.elim,u,t,v,rfl⟩;unfold errP;rw[x01];have e:∀{α:Type} (k:Value→Option α),zdu PP .neq AA (.iface Ag (.int .i64 c)) k=k (.bool true):=fun k=>rfl;rw[e,zad,s_br,if_pos rfl,zag h4]
theorem c_cutp(l:List UInt8)(H:Hp):RR BK [str l,.string ⟨#[48,120]⟩] H=some (if l.take 2=[48,120] then .tuple #[str (l.drop 2),.bool true] else .tuple #[str l,.bool false],H):=by
 have hp:RR BH [str l,str [48,120]] H=some (.bool (decide (l.take 2=[48,120])),H):=by
  refine(zcF E0 rfl _ _ H).trans ?_;unfold zbH;simp only[znN,zdX,zad,s_br];by_cases h:l.length≥2
  ·have h':((l.length:Int)≥(([48,120]:List UInt8).length:Int)):=by show (l.length:Int)≥2;omega
   rw[if_pos (decide_eq_true h'),s_upto l .i64 (m:=([48,120]:List UInt8).length) h,zfs];have e:(l.take ([48,120]:List UInt8).length==[48,120])=decide (l.take 2=[48,120]):=by rw[Bool.eq_iff_iff];simp
   rw[e]
  ·have h':¬((l.length:Int)≥(([48,120]:List UInt8).length:Int)):=by show ¬(l.length:Int)≥2;omega
   rw[if_neg (fun q=>h' (of_decide_eq_true q))];have:¬(l.take 2=[48,120]):=fun e=>by have:=congrArg List.length e;rw[length_take]at this;simp at this;omega
   rw[decide_eq_false this]
 have hc:RR Bf [str l,str [48,120]] H=some (if l.take 2=[48,120] then .tuple #[str (l.drop 2),.bool true] else .tuple #[str l,.bool false],H):=by
  refine(zcG E0 rfl _ _ H).trans ?_;unfold zbI;rw[zag hp,zbQ,zad,s_br];by_cases h:l.take 2=[48,120]
  ·rw[decide_eq_true h,if_neg (by decide),if_pos h,znN];have hl2:2≤l.length:=by have:=congrArg List.length h;rw[length_take]at this;simp at this;omega
   have:=s_from l .i64 (m:=2) hl2 (fun v6=>some ((Value.tuple #[v6,.bool true]),H));exact this
  ·rw[decide_eq_false h,if_pos (by decide),if_neg h]
 refine(zfw E0 rfl _ _ H).trans ?_;unfold zdx;have hc':RR Bf [str l,.string ⟨#[48,120]⟩] H=_:=hc;rw[zag hc'];by_cases h:l.take 2=[48,120]
 ·rw[if_pos h,x01]
 ·rw[if_neg h,x01]
theorem zns(l:List UInt8)(i:Nat)(hi:i<l.length){c:Nat}(hc:c<128)(h:((Utf8.decode (ba l) i).1:Int)=(c:Int)):(l.getD i 0).toNat=c:=by
 rw[Go.Lib.decode_at,zcC]at h;simp only[ba_get]at h;have hs:=zml (l.length-i) (l.getD i 0).toNat (l.getD (i+1) 0).toNat (l.getD (i+2) 0).toNat (l.getD (i+3) 0).toNat (by omega);generalize Go.Lib.decodeN (l.length-i) (l.getD i 0).toNat (l.getD (i+1) 0).toNat (l.getD (i+2) 0).toNat (l.getD (i+3) 0).toNat=q at hs h;obtain⟨r,w⟩:=q;rcases hs with⟨h1,h2⟩|⟨h1,h2⟩|⟨h1,h2,h3,h4,h5⟩|⟨h1,h2,h3,h3',h4,h5⟩|⟨h1,h2,h3,h3',h3'',h4,h5⟩
 ·cases h2;dsimp only at h;omega
 ·cases h2;dsimp only at h;omega
 all_goals (dsimp only at h h5;omega)
theorem zod(base:Nat):∀(l:List UInt8) (v:Nat),(∃b∈l,digV b.toNat base<0)→numL base l v=none
 |[],v,⟨b,hb,_⟩=>by cases hb
 |a::r,v,⟨b,hb,hd⟩=>by
  unfold numL;by_cases h0:digV a.toNat base<0
  ·rw[if_pos h0]
  ·rw[if_neg h0];split
   ·rfl
   ·rcases mem_cons.1 hb with q|q
    ·subst q;exact absurd hd h0
    ·exact zod base r _ ⟨b,q,hd⟩
theorem sign_bad{b:UInt8}{base:Nat}(hb:base=10∨base=16)(h:b.toNat=95∨b.toNat=43∨b.toNat=45):digV b.toNat base<0:=by rcases hb with rfl|rfl<;>rcases h with h|h|h<;>rw[h]<;>decide
theorem sign_loop(l:List UInt8)(hl:l.length≤2^40)(H:Hp):∀(m i:Nat),l.length-i=m→i≤l.length →
  zau (zbj RR) [zc7 l i] H=some (.exit 0,[zc7 l l.length],H)∨(zau (zbj RR) [zc7 l i] H=some (.ret,[badN],H)∧∃b∈l,b.toNat=95∨b.toNat=43∨b.toNat=45):=by
 intro m;induction m using Nat.strongRecOn with
 |_ m ih=>
 intro i hm hi;by_cases he:i=l.length
 ·left;subst he;have hb:Nat.blt l.length (ba l).size=false:=by rw[zcC];exact Bool.eq_false_iff.2 fun q=>by rw[Nat.blt_eq]at q;exact Nat.lt_irrefl _ q
  have:zbj RR [zc7 l l.length] H=some (.exit 0,[zc7 l l.length],H):=by show br (Nat.blt l.length (ba l).size) _ _=_;rw[hb];rfl
  rw[zah,this];rfl
 ·have hlt:i<l.length:=by omega
  have hb:Nat.blt i (ba l).size=true:=by rw[zcC];rw[Nat.blt_eq];exact hlt
  obtain⟨d1,d2,_⟩:=dec_sp l i hlt;have hmem:l.getD i 0∈l:=by rw[getD_eq_getElem?_getD,List.getElem?_eq_getElem hlt];exact getElem_mem hlt
  have hstep:zbj RR [zc7 l i] H =
    (if ((Utf8.decode (ba l) i).1:Int)=95 then some (.ret,[badN],H) else if ((Utf8.decode (ba l) i).1:Int)=43 then some (.ret,[badN],H) else if ((Utf8.decode (ba l) i).1:Int)=45 then some (.ret,[badN],H) else some (.next,[zc7 l (i+(Utf8.decode (ba l) i).2)],H)):=by
   show br (Nat.blt i (ba l).size) (pBin PP .eql Af (.int .i32 (Utf8.decode (ba l) i).1) (.int .i32 95) fun v13=>zaa v13 fun b14=>br b14 (some (Ctl.ret,[(.tuple #[(.int .u64 0),(.int .i64 10)])],H))
    (pBin PP .eql Af (.int .i32 (Utf8.decode (ba l) i).1) (.int .i32 43) fun v15=>zaa v15 fun b16=>br b16 (some (Ctl.ret,[(.tuple #[(.int .u64 0),(.int .i64 10)])],H))
    (pBin PP .eql Af (.int .i32 (Utf8.decode (ba l) i).1) (.int .i32 45) fun v17=>zaa v17 fun b18=>br b18 (some (Ctl.ret,[(.tuple #[(.int .u64 0),(.int .i64 10)])],H))
    (some (Ctl.next,[zc7 l (i+(Utf8.decode (ba l) i).2)],H))))) _=_
   rw[hb];simp only[zaZ,zad,s_br,decide_eq_true_eq,if_true];rfl
  rw[zah,hstep];by_cases h1:((Utf8.decode (ba l) i).1:Int)=95
  ·right;rw[if_pos h1];exact⟨rfl,_,hmem,.inl (zns l i hlt (c:=95) (by decide) h1)⟩
  ·rw[if_neg h1];by_cases h2:((Utf8.decode (ba l) i).1:Int)=43
   ·right;rw[if_pos h2];exact⟨rfl,_,hmem,.inr (.inl (zns l i hlt (c:=43) (by decide) h2))⟩
   ·rw[if_neg h2];by_cases h3:((Utf8.decode (ba l) i).1:Int)=45
    ·right;rw[if_pos h3];exact⟨rfl,_,hmem,.inr (.inr (zns l i hlt (c:=45) (by decide) h3))⟩
    ·rw[if_neg h3];exact ih (l.length-(i+(Utf8.decode (ba l) i).2)) (by omega) (i+(Utf8.decode (ba l) i).2) rfl d2
theorem numP_eq(l:List UInt8):numP l=if l.take 2=[48,120] then numB 16 (l.drop 2) else numB 10 l:=by
 unfold numP numB
 match l with
 |[]=>rfl
 |[a]=>simp
 |a::b::r=>
  simp only[List.getElem?_cons_zero,List.getElem?_cons_succ,take_succ_cons,take_zero,qd1,qd0,length_cons,Option.some.injEq,List.cons.injEq,and_true];by_cases h:a=48∧b=120
  ·rw[if_pos h,if_pos h];by_cases hr:r=[]
   ·subst hr;rfl
   ·rw[if_neg hr,if_neg (fun e=>hr (length_eq_zero_iff.1 (by omega)))]
  ·rw[if_neg h,if_neg h,if_neg (by omega),if_neg (by simp)]
theorem c_number(l:List UInt8)(hl:l.length≤2^40)(H:Hp)(hL:Laid H):∃H',RR AL [str l] H=some (numV (numP l),H')∧Frm (fun _=>False) H H':=by
 have hrun:=(zkC E0 rfl (str l) H)
 rw[zkV,zag (c_cutp l H)]at hrun
 have tail:∀(d:List UInt8) (base:Nat),(base=10∨base=16)→d.length≤2^40→∃H',(zjb (str d) fun s10=>
   zaw (zau (zbj RR) [(.tuple #[.string s10,.int .i64 (0:Nat)])] H) fun q19 l20 H21=>zaG q19 none
   (fun i22=>zax i22 0 (
   zae RR Bh [str d,(.int .i64 (base:Int)),(.int .i64 64)] H21 fun r23 H24=>
   zac r23 0 fun v25=>
   zac r23 1 fun v26=>
   zdu PP .neq AA v26 fun v27=>
   zaa v27 fun b28=>br b28
   (some ((.tuple #[(.int .u64 0),(.int .i64 10)]),H24))
   (some ((.tuple #[v25,(.int .i64 0)]),H24))) (
   none))
   (some ((l20.headD undef),H21)))=some (numV (numB base d),H')∧Frm (fun _=>False) H H':=by
  intro d base hb hd;have e:∀(k:ByteArray→Option (Value×Hp)),zjb (str d) k=k (ba d):=fun k=>rfl;rw[e];rcases sign_loop d hd H d.length 0 rfl (Nat.zero_le _) with h|⟨h,b,hm,hs⟩
  ·have h:zau (zbj RR) [(.tuple #[.string (ba d),.int .i64 (0:Nat)])] H=_:=h;obtain⟨r,H',h1,h2,h3⟩:=c_parse d hd base hb H hL;refine⟨H',?_,h2⟩;rw[h,zan,za6,zaC,zag h1];cases hn:numB base d with
   |some x=>
    rw[hn]at h3;subst h3;rfl
   |none=>
    rw[hn]at h3;obtain⟨u,t,v,rfl⟩:=h3;rfl
  ·have h:zau (zbj RR) [(.tuple #[.string (ba d),.int .i64 (0:Nat)])] H=_:=h;refine⟨H,?_,Frm.refl _ _⟩;rw[h,zan,zeK];have:numB base d=none:=by unfold numB;rw[if_neg (fun e=>by subst e;cases hm)];exact zod base d 0 ⟨b,hm,sign_bad hb hs⟩
   rw[this];rfl
 rw[numP_eq];by_cases h:l.take 2=[48,120]
 ·obtain⟨H',h1,h2⟩:=tail (l.drop 2) 16 (.inr rfl) (by rw[length_drop];omega);refine⟨H',hrun.trans ?_,h2⟩;rw[if_pos h,if_pos h,x01];exact h1
 ·obtain⟨H',h1,h2⟩:=tail l 10 (.inl rfl) hl;refine⟨H',hrun.trans ?_,h2⟩;rw[if_neg h,if_neg h,x01];exact h1
theorem zbL{h:zaf}{g:FuncId}{args:List Value}{H:Hp}{v:Value}{H':Hp}(e:h g args H=some (W1 v,H')){α:Type}(kp k:Value→Hp→Option α):zbk h g args H kp k=k v H':=by unfold zbk;rw[e];rfl
theorem zbM{h:zaf}{g:FuncId}{args:List Value}{H:Hp}{v:Value}{H':Hp}(e:h g args H=some (W0 v,H')){α:Type}(kp k:Value→Hp→Option α):zbk h g args H kp k=kp v H':=by unfold zbk;rw[e];rfl
theorem zmK{h:zaf}{g:FuncId}{args:List Value}{H:Hp}{v:Value}{H':Hp}(e:h g args H=some (W1 v,H')){α:Type}(k:Value→Hp→Option α):zed h g args H k=k v H':=by unfold zed;rw[e];rfl
structure RdS(H:Hp)(p:Nat)(sp wv tv:Value)(ws:List (List UInt8)):Prop where
 rd:H.get p=some (.cells [sp,wv,tv] true)
 wd:Wds H wv ws
 wp:¬Id wv p
 pl:p<H.next
 sh:∀w∈ws,w.length≤2^40
theorem RdS.keep{H H':Hp}{p:Nat}{sp wv tv:Value}{ws:List (List UInt8)}{M:Nat→Prop}(h:RdS H p sp wv tv ws)(k:Frm M H H')(hp:¬M p)(hw:∀j,Id wv j→¬M j):RdS H' p sp wv tv ws:=
 ⟨by rw[k.same p h.pl hp];exact h.rd,h.wd.keep k hw,h.wp,Nat.lt_of_lt_of_le h.pl k.next,h.sh⟩
theorem RdS.next{H:Hp}{p:Nat}{sp wv tv:Value}{w:List UInt8}{ws:List (List UInt8)}(h:RdS H p sp wv tv (w::ws)) :
  ∃H' wv',RR Ap [.pointer (some ⟨p,0,none⟩)] H=some (W1 (str w),H')∧RdS H' p sp wv' tv ws∧(∀j,Id wv' j→Id wv j)∧Frm (· = p) H H':=by
 obtain⟨H',wv',h1,h2,h3,h4,h5,h6⟩:=next_some h.rd h.wd h.wp;exact⟨H',wv',h1,⟨h2,h3,fun q=>h.wp (h4 p q),by rw[h6];exact h.pl,fun x hx=>h.sh x (mem_cons_of_mem _ hx)⟩,h4,h5⟩
theorem RdS.stop{H:Hp}{p:Nat}{sp wv tv:Value}(h:RdS H p sp wv tv []):RR Ap [.pointer (some ⟨p,0,none⟩)] H=some (W0 (zcd 3),H):=next_none h.rd h.wd
def numF(ws:List (List UInt8)):Option Int:=match ws with
 |[]=>none
 |w::_=>if zcc w<0 then none else some (zcc w)
def RdA(H:Hp)(p:Nat)(sp wv tv:Value)(ws:List (List UInt8))(f:FuncId)(r:Option Int):Prop:=
 match r with
 |none=>∃H',RR f [.pointer (some ⟨p,0,none⟩)] H=some (W0 (zcd 3),H')∧Frm (· = p) H H'
 |some v=>∃H' wv',RR f [.pointer (some ⟨p,0,none⟩)] H=some (W1 (.int .i64 v),H')∧RdS H' p sp wv' tv ws.tail∧(∀j,Id wv' j→Id wv j)∧Frm (· = p) H H'
theorem zd4(w:List UInt8):zcc w=match numP w with|some x=>if x<2147483648 then (x:Int) else -1|none=>-1:=rfl
theorem RdS.number{H:Hp}{p:Nat}{sp wv tv:Value}{ws:List (List UInt8)}(h:RdS H p sp wv tv ws)(hL:Laid H)(hp:PP.globals.size≤p):RdA H p sp wv tv ws An (numF ws):=by
 have hrun:=zfb E0 rfl (.pointer (some ⟨p,0,none⟩)) H;unfold zdd at hrun;cases ws with
 |nil=>
  rw[zbM h.stop]at hrun;exact⟨H,hrun,Frm.refl _ _⟩
 |cons w ws=>
  obtain⟨H1,wv',h1,h2,h3,h4⟩:=h.next;have hL1:Laid H1:=hL.keep h4 fun j q=>by rw[q];exact hp
  obtain⟨H2,g1,g2⟩:=c_number w (h.sh w (mem_cons_self ..)) H1 hL1;have h5:RdS H2 p sp wv' tv ws:=h2.keep g2 (fun q=>q) fun _ _ q=>q;have hf:Frm (· = p) H H2:=h4.trans (g2.mono fun j q=>q.elim) fun j q=>.inl q;rw[zbL h1,zag g1]at hrun;unfold numF;dsimp only;cases hn:numP w with
  |none=>
   rw[hn]at hrun;have hs:zcc w=-1:=by rw[zd4,hn]
   rw[hs,if_pos (by decide)];refine⟨H2,hrun.trans ?_,hf⟩;have e0:∀{α:Type} (k:Value→Option α),zac (numV none) 0 k=k (.int .u64 0):=fun k=>rfl;have e1:∀{α:Type} (k:Value→Option α),zac (numV none) 1 k=k (.int .i64 10):=fun k=>rfl;simp only[e0,e1,zba,zad,s_br,zb9,show ((10:Int)≠0) from by decide,decide_true,if_true,ne_eq,not_false_eq_true]
  |some x=>
   rw[hn]at hrun;have e0:∀{α:Type} (k:Value→Option α),zac (numV (some x)) 0 k=k (.int .u64 (x:Int)):=fun k=>rfl;have e1:∀{α:Type} (k:Value→Option α),zac (numV (some x)) 1 k=k (.int .i64 0):=fun k=>rfl;have hz:¬((0:Int)≠0):=by decide
   by_cases hx:x<2147483648
   ·have hs:zcc w=(x:Int):=by rw[zd4,hn];exact if_pos hx
    rw[hs,if_neg (by omega)];have hx':¬((x:Int)≥2147483648):=by omega
    have hc:∀{α:Type} (k:Value→Option α),zaq .i64 (.int .u64 (x:Int)) k=k (.int .i64 (x:Int)):=fun k=>by show k (.int .i64 (IntKind.i64.wrap (x:Int)))=_;rw[w64 (by omega) (by omega)]
    refine⟨H2,wv',hrun.trans ?_,h5,h3,hf⟩;simp only[e0,e1,zba,zad,s_br,hz,decide_false,Bool.false_eq_true,if_false,zdX,hx',hc]
   ·have hs:zcc w=-1:=by rw[zd4,hn];exact if_neg hx
    rw[hs,if_pos (by decide)];have hx':((x:Int)≥2147483648):=by omega
    refine⟨H2,hrun.trans ?_,hf⟩;simp only[e0,e1,zba,zad,s_br,hz,decide_false,decide_true,Bool.false_eq_true,if_false,if_true,zdX,hx',zb9]
theorem smallV_bd(w:List UInt8):zcc w=-1∨(0≤zcc w∧zcc w<2147483648):=by
 rw[zd4];cases numP w with
 |none=>exact .inl rfl
 |some x=>
  dsimp only;split
  ·right;omega
  ·exact .inl rfl
theorem numF_bd{ws:List (List UInt8)}{v:Int}(h:numF ws=some v):0≤v∧v<2147483648:=by
 cases ws with
 |nil=>cases h
 |cons w ws=>
  unfold numF at h;dsimp only at h;split at h
  ·cases h
  ·cases h;have:=smallV_bd w;omega
def zkG(ts:List Int)(ws:List (List UInt8)):Option Int:=match numF ws with
 |none=>none
 |some v=>if 1≤v∧v≤ts.length then some (ts.getD (v-1).toNat 0) else none
def i64s(l:List Int):List Value:=l.map fun z=>Value.int .i64 z
theorem RdS.part{H:Hp}{p:Nat}{sp wv tv:Value}{ws:List (List UInt8)}{ts:List Int}(h:RdS H p sp wv tv ws)(hL:Laid H)(hp:PP.globals.size≤p)(ht:Vec H 1 tv ts.length (i64s ts))(htp:¬Id tv p):RdA H p sp wv tv ws Bq (zkG ts ws):=by
 have hrun:=zfY E0 rfl (.pointer (some ⟨p,0,none⟩)) H;unfold zdN at hrun;have hn:=h.number hL hp;unfold zkG;cases hf:numF ws with
 |none=>
  rw[hf]at hn;obtain⟨H',h1,h2⟩:=hn;rw[zbM h1]at hrun;exact⟨H',hrun,h2⟩
 |some v=>
  rw[hf]at hn;obtain⟨H',wv',h1,h2,h3,h4⟩:=hn;have hb:=numF_bd hf;rw[zbL h1]at hrun;have ht':Vec H' 1 tv ts.length (i64s ts):=ht.keep h4 fun j hj q=>htp (by rw[q]at hj;exact hj);have hl:=fun (α:Type) (k:Value→Option α)=>zbi h2.rd (0+2) tv rfl k;dsimp only;by_cases hv:1≤v∧v≤ts.length
  ·rw[if_pos hv];have e1:¬(v<1):=by omega
   have e2:¬(v>(ts.length:Int)):=by omega
   have e3:IntKind.i64.wrap (v-1)=(((v-1).toNat:Nat):Int):=by rw[w64 (by omega) (by omega)];omega
   have hi:(v-1).toNat<ts.length:=by omega
   obtain⟨y,hy,⟨rest,hg⟩,hix⟩:=ht'.ix hi;refine⟨H',wv',hrun.trans ?_,h2,h3,h4⟩
   have hld:=fun (α:Type) (k:Value→Option α)=>zbi hg ((v-1).toNat*1) (.int .i64 (ts.getD (v-1).toNat 0)) (by
    rw[Nat.mul_one,List.getElem?_append_left (by simpa[i64s] using hi)]
    rw[i64s,List.getElem?_map,getD_eq_getElem?_getD,List.getElem?_eq_getElem hi];rfl) k
   simp only[zbh,zad,s_br,e1,decide_false,Bool.false_eq_true,if_false,zbA,zaK,hl,ht'.len,zb8,e2,zd5,e3,hix,hld]
  ·rw[if_neg hv];refine⟨H',hrun.trans ?_,h4⟩;by_cases e1:v<1
   ·simp only[zbh,zad,s_br,e1,decide_true,if_true,zb9]
   ·have e2:(v>(ts.length:Int)):=by omega
    simp only[zbh,zad,s_br,e1,decide_false,decide_true,Bool.false_eq_true,if_false,if_true,zbA,zaK,hl,ht'.len,zb8,e2,zb9]
end Go.AM
namespace Go.AM
open Go
section
end
theorem bld{α:Type}{P:Program}{t:TypeId}{l:List (Nat×Value)}{v:Value}(h:zgt P t l=some v)(k:Value→Option α):zaE P t l k=k v:=by unfold zaE;rw[h]
section
variable {α:Type}(k:Value→Option α)
theorem b0(o:Int):zaE PP Am [(0,.int .i64 o)] k=k (Nd.val ⟨o,0,0,0,0,0,⟨#[]⟩⟩):=bld (by kernel_rfl) k
theorem b016(o:Int)(w:Int)(s:ByteArray):zaE PP Am [(0,.int .i64 o),(1,.int .i64 w),(6,.string s)] k=k (Nd.val ⟨o,w,0,0,0,0,s⟩):=bld (by kernel_rfl) k
end
abbrev Res:=Int×Int×List Nd×List (ByteArray×Int)
def Does(H:Hp)(p:Nat)(lim:Int)(sl:Value)(f g:Nat)(fn:FuncId)(args:List Value)(r:Res):Prop:=
 ∃H' sl',RR fn (.pointer (some ⟨p,0,none⟩)::args) H=some (.tuple #[.int .i64 r.1,.int .i64 r.2.1],H')∧MkOk H p lim sl f g r H' sl'
structure zjf(L:List Nd):Prop where
 w:∀m∈L,0≤m.w∧m.w≤64
 l:(L.length+1)*64≤2^47
theorem zjf.len{L:List Nd}(h:zjf L):(L.length:Int)≤4611686018427387904:=by have:=h.l;omega
section
variable {H:Hp}{p f g:Nat}{lim:Int}{L:List Nd}{K:List (ByteArray×Int)}{sl:Value}(h:StF H p lim L K sl f g)(hR:zjf L)
include h hR
theorem d22(n:Nd)(hn:0≤n.num∧n.num<18446744073709551616):Does H p lim sl f g Ar [n.val] (mkR lim L K n):=c22 h n hn hR.w hR.l
omit h hR in
theorem nz:(0:Int)≤0∧(0:Int)<18446744073709551616:=by decide
def varN(s:ByteArray)(w:Int):Nd:=⟨4,w,0,0,0,0,s⟩
end
theorem spl7{α:Type}(n:Nd)(k:List Value→Option α):zaN 7 [.int .i64 0,.int .i64 0,.int .i64 0,.int .i64 0,.int .i64 0,.int .u64 0,.string ⟨#[]⟩] 0 n.val k=k n.cells:=by
 have:zbm 7 [.int .i64 0,.int .i64 0,.int .i64 0,.int .i64 0,.int .i64 0,.int .u64 0,.string ⟨#[]⟩] 0 n.val=some n.cells:=by kernel_rfl
 unfold zaN;rw[this]
theorem zf9{α:Type}(n:Nd)(k:Value→Option α):zaj 1 false n.cells 1 k=k (.int .i64 n.w):=zd6 _ 1 _ rfl k
section
end
section
end
section
end
theorem new61{α:Type}(lim:Int)(v w:Nat)(k:Value→Option α):zaE PP AC [(0,.int .i64 lim),(2,.map (some v)),(3,.map (some w))] k=k (.agg #[.int .i64 lim,.slice none 0 0,.map (some v),.map (some w)]):=bld (by kernel_rfl) k
def newH(lim:Int)(H:Hp):Hp:=((H.new (.map [])).new (.map [])).new (.cells [.int .i64 lim,.slice none 0 0,.map (some H.next),.map (some (H.next+1))] true)
theorem newH_st(lim:Int)(H:Hp):StF (newH lim H) (H.next+2) lim [] [] (.slice none 0 0) H.next (H.next+1):=by
 refine⟨⟨?_,.inl ⟨rfl,rfl⟩⟩,?_,?_,by omega,by omega,by omega,?_,?_,?_,fun i hi=>by cases hi⟩
 ·exact if_pos rfl
 ·unfold newH;rw[zgm,if_neg (by show ¬H.next=H.next+1+1;omega),zgm,if_neg (by show ¬H.next=H.next+1;omega),zgm,if_pos rfl];rfl
 ·unfold newH;rw[zgm,if_neg (by show ¬H.next+1=H.next+1+1;omega),zgm];exact if_pos rfl
 ·show H.next+2<H.next+1+1+1;omega
 ·show H.next<H.next+1+1+1;omega
 ·show H.next+1<H.next+1+1+1;omega
theorem zof(lim:Int)(H:Hp)(j:Nat)(hj:j<H.next):(newH lim H).get j=H.get j:=by unfold newH;rw[zgm,if_neg (by show ¬j=H.next+1+1;omega),zgm,if_neg (by show ¬j=H.next+1;omega),zgm,if_neg (by omega)]
theorem zlW(lim:Int)(H:Hp):(newH lim H).next=H.next+3:=rfl
theorem c16(lim:Int)(H:Hp):RR Bn [.int .i64 lim] H=if lim<0 then some (.tuple #[.pointer none,.int .i64 1],H) else some (.tuple #[.pointer (some ⟨H.next+2,0,none⟩),.int .i64 0],newH lim H):=by refine(zoW E0 rfl _ _).trans ?_;unfold zjL;simp only[zbh,zad,s_br,decide_eq_true_eq,zbD,zcX,new61];rfl
def Foot(p f g:Nat)(sl:Value)(i:Nat):Prop:=i=p∨i=f∨i=g∨slId sl=some i
theorem StF.foot_lt{H:Hp}{p f g:Nat}{lim:Int}{L:List Nd}{K:List (ByteArray×Int)}{sl:Value}(h:StF H p lim L K sl f g){i:Nat}(hi:Foot p f g sl i):i<H.next:=by
 rcases hi with rfl|rfl|rfl|hi
 ·exact h.lp
 ·exact h.lf
 ·exact h.lg
 ·exact(h.sa i hi).2.2.2
theorem StF.keep{H H':Hp}{p f g:Nat}{lim:Int}{L:List Nd}{K:List (ByteArray×Int)}{sl:Value}(h:StF H p lim L K sl f g)(hg:∀i,Foot p f g sl i→H'.get i=H.get i)(hn:H.next≤H'.next):StF H' p lim L K sl f g:=by
 refine⟨⟨?_,?_⟩,?_,?_,h.pf,h.pg,h.fg,Nat.lt_of_lt_of_le h.lp hn,Nat.lt_of_lt_of_le h.lf hn,Nat.lt_of_lt_of_le h.lg hn,fun i hi=>?_⟩
 ·rw[hg p (.inl rfl)];exact h.st.obj
 ·rcases h.st.all with e|⟨j,e,hj⟩
  ·exact .inl e
  ·exact .inr ⟨j,e,by rw[hg j (.inr (.inr (.inr (by rw[e];rfl))))];exact hj⟩
 ·rw[hg f (.inr (.inl rfl))];exact h.fm
 ·rw[hg g (.inr (.inr (.inl rfl)))];exact h.gm
 ·obtain⟨a,b,c,d⟩:=h.sa i hi;exact⟨a,b,c,Nat.lt_of_lt_of_le d hn⟩
theorem MkOk.foot{H H':Hp}{p f g:Nat}{lim:Int}{sl sl':Value}{r:Res}(h:MkOk H p lim sl f g r H' sl'){i:Nat}(hi:Foot p f g sl' i):Foot p f g sl i∨H.next≤i:=by
 rcases hi with e|e|e|e
 ·exact .inl (.inl e)
 ·exact .inl (.inr (.inl e))
 ·exact .inl (.inr (.inr (.inl e)))
 ·exact(h.own i e).imp (fun q=>.inr (.inr (.inr q))) id
theorem MkOk.same{H H':Hp}{p f g:Nat}{lim:Int}{sl sl':Value}{r:Res}(h:MkOk H p lim sl f g r H' sl'){i:Nat}(hl:i<H.next)(hi:¬Foot p f g sl i):H'.get i=H.get i:=
 h.frame i hl (fun e=>hi (.inl e)) (fun e=>hi (.inr (.inl e))) (fun e=>hi (.inr (.inr (.inl e)))) (fun e=>hi (.inr (.inr (.inr e))))
end Go.AM
namespace Go.AM
open List Go
structure Inv(lim:Int)(L:List Nd):Prop where
 w:∀m∈L,0≤m.w∧m.w≤64
 parts:∀(i:Nat) m,L[i]?=some m→m.a≤i∧m.b≤i∧m.c≤i
 nod:∀(i j:Nat) m,L[i]?=some m→L[j]?=some m→i=j
 lim:lim>0→(L.length:Int)≤lim
theorem Inv.nil(lim:Int):Inv lim []:=⟨fun m h=>(by cases h),fun i m h=>(by cases h),fun i j m h=>(by cases h),fun h=>by simp;omega⟩
theorem ziq(n m:Nd):zjD n m=true↔n=m:=by cases n;cases m;unfold zjD;simp[zc9]
theorem zdI(n:Nd):∀(L:List Nd) (i q:Nat),zbf n i L=some q→i≤q∧L[q-i]?=some n
 |[],i,q,h=>by cases h
 |m::r,i,q,h=>by
  unfold zbf at h;split at h
  ·rename_i e;cases h;have:=(ziq n m).1 e;subst this;exact⟨Nat.le_refl _,by simp⟩
  ·obtain⟨h1,h2⟩:=zdI n r (i+1) q h;refine⟨by omega,?_⟩;rw[show q-i=(q-(i+1))+1 by omega];simpa using h2
theorem zcV(n:Nd):∀(L:List Nd) (i:Nat),zbf n i L=none→∀(j:Nat),L[j]?≠some n
 |[],i,h,j,e=>by cases e
 |m::r,i,h,j,e=>by
  unfold zbf at h;split at h
  ·cases h
  ·rename_i ne;cases j with
   |zero=>simp at e;subst e;exact ne ((ziq _ _).2 rfl)
   |succ j=>exact zcV n r (i+1) h j (by simpa using e)
theorem zkW{L:List Nd}{m:Nd}{t:Int}(h:isT L t=true):isT (L++[m]) t=true:=by obtain⟨h1,h2⟩:=zaV.1 h;exact zaV.2 ⟨h1,by simp;omega⟩
theorem wT_app{L:List Nd}{m:Nd}{d t:Int}(h:isT L t=true∨t≤0):wT (L++[m]) d t=wT L d t:=by
 rcases h with h|h
 ·obtain⟨h1,h2⟩:=zaV.1 h;unfold wT;rw[if_pos h,if_pos (zkW h),List.getElem?_append_left (by omega)]
 ·have e1:∀M:List Nd,isT M t=false:=fun M=>by
   cases e:isT M t with
   |false=>rfl
   |true=>have:=(zaV.1 e).1;omega
  unfold wT;rw[if_neg (by rw[e1];decide),if_neg (by rw[e1];decide)]
theorem zcW(op:Int):zai op=0∨zai op=1∨zai op=2∨zai op=3:=by
 unfold zai;split
 ·exact .inl rfl
 ·split
  ·exact .inr (.inl rfl)
  ·split
   ·exact .inr (.inr (.inr rfl))
   ·exact .inr (.inr (.inl rfl))
theorem zkF{L:List Nd}{n:Nd}(h1:¬zbP L n=true)(h2:¬zd3 (zai n.op) n=true) :
  (isT L n.a=true∨n.a=0)∧(isT L n.b=true∨n.b=0)∧(isT L n.c=true∨n.c=0)∧(zai n.op≥1→isT L n.a=true)∧(zai n.op≥2→isT L n.b=true)∧(zai n.op≥3→isT L n.c=true):=by
 unfold zbP at h1;unfold zd3 at h2;simp only[Bool.or_eq_true,Bool.and_eq_true,decide_eq_true_eq,Bool.not_eq_true',not_or,not_and,Bool.not_eq_false]at h1 h2;have ha:zai n.op≥1→isT L n.a=true:=h1.1.1;have hb:zai n.op≥2→isT L n.b=true:=h1.1.2;have hc:zai n.op≥3→isT L n.c=true:=h1.2;refine⟨?_,?_,?_,ha,hb,hc⟩
 ·rcases Int.lt_or_le (zai n.op) 1 with q|q
  ·right;have:=h2.1.1.1.1 q;omega
  ·exact .inl (ha q)
 ·rcases Int.lt_or_le (zai n.op) 2 with q|q
  ·right;have:=h2.1.1.1.2 q;omega
  ·exact .inl (hb q)
 ·rcases Int.lt_or_le (zai n.op) 3 with q|q
  ·right;have:=h2.1.1.2 q;omega
  ·exact .inl (hc q)
theorem zgK(s t:ByteArray)(w:Int):∀(K:List (ByteArray×Int)) (i:Nat),zaX s i K=none→zaX s i (K++[(s,w)])=some (i+K.length,w)
 |[],i,h=>by
  show zaX s i [(s,w)]=_;unfold zaX;rw[if_pos ((zc9 s s).2 rfl)];rfl
 |(u,v)::r,i,h=>by
  unfold zaX at h;split at h
  ·cases h
  ·rename_i ne;show zaX s i ((u,v)::(r++[(s,w)]))=_;unfold zaX;rw[if_neg ne,zgK s t w r (i+1) h,length_cons];congr 2;omega
theorem znx{K:List (ByteArray×Int)}{n:Nd}(h:zbn K n=false):zbn (zbt n.name n.w K) n=false:=by
 unfold zbt;cases hq:zaX n.name 0 K with
 |some q=>exact h
 |none=>
  unfold zbn at h ⊢;rw[hq]at h;rw[zgK n.name n.name n.w K 0 hq];simpa using h
structure zgU(L:List Nd)(K:List (ByteArray×Int))(n:Nd):Prop where
 op:¬(n.op<1∨n.op>33)
 w:¬(n.w<0∨n.w>64)
 pt:¬zbP L n=true
 sp:¬zd3 (zai n.op) n=true
 so:¬zbz n.op (wT L (-1) n.a) (wT L (-1) n.b) (wT L (-1) n.c)=false
 wi:¬zbO n (wT L (-1) n.a) (wT L (-1) n.b)=false
 nm:¬(n.op=4∧zbn K n=true)
theorem zeM{L:List Nd}{K:List (ByteArray×Int)}{n:Nd}:zcB L K n=0↔zgU L K n:=by
 constructor
 ·intro h;unfold zcB at h;split at h
  ·cases h
  ·split at h
   ·cases h
   ·split at h
    ·cases h
    ·split at h
     ·cases h
     ·split at h
      ·cases h
      ·split at h
       ·cases h
       ·split at h
        ·cases h
        ·constructor<;>assumption
 ·rintro⟨h1,h2,h3,h4,h5,h6,h7⟩
  unfold zcB;rw[if_neg h1,if_neg h2,if_neg h3,if_neg h4,if_neg h5,if_neg h6,if_neg h7]
theorem zgU.app{L:List Nd}{K K':List (ByteArray×Int)}{n m:Nd}(h:zgU L K n)(hk:n.op=4→zbn K' n=false):zgU (L++[m]) K' n:=by
 obtain⟨ga,gb,gc,ha,hb,hc⟩:=zkF h.pt h.sp;have ea:=wT_app (m:=m) (d:=-1) (ga.imp id (fun e=>by omega):isT L n.a=true∨n.a≤0);have eb:=wT_app (m:=m) (d:=-1) (gb.imp id (fun e=>by omega):isT L n.b=true∨n.b≤0);have ec:=wT_app (m:=m) (d:=-1) (gc.imp id (fun e=>by omega):isT L n.c=true∨n.c≤0);refine⟨h.op,h.w,?_,h.sp,?_,?_,fun q=>?_⟩
 ·intro q;unfold zbP at q;simp only[Bool.or_eq_true,Bool.and_eq_true,decide_eq_true_eq,Bool.not_eq_true']at q;rcases q with (⟨q1,q2⟩|⟨q1,q2⟩)|⟨q1,q2⟩
  ·rw[zkW (ha q1)]at q2;cases q2
  ·rw[zkW (hb q1)]at q2;cases q2
  ·rw[zkW (hc q1)]at q2;cases q2
 ·rw[ea,eb,ec];exact h.so
 ·rw[ea,eb];exact h.wi
 ·rw[hk q.1]at q;cases q.2
theorem mk_no{lim:Int}{L:List Nd}{K:List (ByteArray×Int)}{n:Nd}(h:(mkR lim L K n).2.1≠0):mkR lim L K n=(0,(mkR lim L K n).2.1,L,K):=by
 unfold mkR at h ⊢;by_cases he:zcB L K n≠0
 ·rw[if_pos he]
 ·rw[if_neg he]at h ⊢;cases hq:zbf n 0 L with
  |some q=>rw[hq]at h;exact absurd rfl h
  |none=>
   rw[hq]at h;dsimp only at h ⊢;split at h
   ·rename_i g;rw[if_pos g]
   ·exact absurd rfl h
theorem zis{lim:Int}{L:List Nd}{K:List (ByteArray×Int)}{n:Nd}(h:(mkR lim L K n).2.1=0):zgU L K n ∧
  ((∃q,zbf n 0 L=some q∧mkR lim L K n=(((q+1:Nat):Int),0,L,K)) ∨
   (zbf n 0 L=none∧¬(lim>0∧(L.length:Int)≥lim)∧mkR lim L K n=(((L.length+1:Nat):Int),0,L++[n],if n.op=4 then zbt n.name n.w K else K))):=by
 unfold mkR at h ⊢;by_cases he:zcB L K n≠0
 ·rw[if_pos he]at h;exact absurd h he
 ·rw[if_neg he]at h ⊢;refine⟨zeM.1 (by omega),?_⟩;cases hq:zbf n 0 L with
  |some q=>exact .inl ⟨q,rfl,rfl⟩
  |none=>
   rw[hq]at h;dsimp only at h ⊢;split at h
   ·cases h
   ·rename_i g;rw[if_neg g];exact .inr ⟨rfl,g,rfl⟩
theorem mk_bd{lim:Int}{L:List Nd}{K:List (ByteArray×Int)}{n:Nd}(h:(mkR lim L K n).2.1=0):1≤(mkR lim L K n).1∧(mkR lim L K n).1≤((mkR lim L K n).2.2.1.length:Int):=by
 obtain⟨hr,⟨q,hq,e⟩|⟨hq,_,e⟩⟩:=zis h
 ·rw[e];have:=(List.getElem?_eq_some_iff.1 (zdI n L 0 q hq).2).1;exact⟨by show (1:Int)≤((q+1:Nat):Int);omega,by show ((q+1:Nat):Int)≤(L.length:Int);omega⟩
 ·rw[e];exact⟨by show (1:Int)≤((L.length+1:Nat):Int);omega,by simp⟩
theorem mk_inv{lim:Int}{L:List Nd}{K:List (ByteArray×Int)}{n:Nd}(h:Inv lim L):Inv lim (mkR lim L K n).2.2.1:=by
 by_cases h0:(mkR lim L K n).2.1=0
 ·obtain⟨hr,⟨q,hq,e⟩|⟨hq,hl,e⟩⟩:=zis h0
  ·rw[e];exact h
  ·rw[e];obtain⟨ga,gb,gc,_,_,_⟩:=zkF hr.pt hr.sp;have bd:∀x:Int,isT L x=true∨x=0→x≤(L.length:Int):=fun x hx=>by
    rcases hx with hx|hx
    ·exact(zaV.1 hx).2
    ·omega
   refine⟨fun m hm=>?_,fun i m hm=>?_,fun i j m hi hj=>?_,fun hp=>?_⟩
   ·rcases mem_append.1 hm with hm|hm
    ·exact h.w m hm
    ·rw[mem_singleton]at hm;subst hm;have:=hr.w;omega
   ·rw[List.getElem?_append]at hm;split at hm
    ·exact h.parts i m hm
    ·rename_i ge;have:i=L.length:=by have:=(List.getElem?_eq_some_iff.1 hm).1;simp at this;omega
     subst this;simp at hm;subst hm;exact⟨bd _ ga,bd _ gb,bd _ gc⟩
   ·have key:∀i:Nat,(L++[n])[i]?=some m→(i<L.length∧L[i]?=some m)∨(i=L.length∧m=n):=fun i hi=>by
     rw[List.getElem?_append]at hi;split at hi
     ·rename_i lt;exact .inl ⟨lt,hi⟩
     ·rename_i ge;have:i=L.length:=by have:=(List.getElem?_eq_some_iff.1 hi).1;simp at this;omega
      subst this;simp at hi;exact .inr ⟨rfl,hi.symm⟩
    rcases key i hi with⟨a1,a2⟩|⟨a1,a2⟩<;>rcases key j hj with⟨b1,b2⟩|⟨b1,b2⟩
    ·exact h.nod i j m a2 b2
    ·rw[b2]at a2;exact absurd a2 (zcV n L 0 hq i)
    ·rw[a2]at b2;exact absurd b2 (zcV n L 0 hq j)
    ·omega
   ·have:¬(L.length:Int)≥lim:=fun q=>hl ⟨hp,q⟩;simp;omega
 ·rw[mk_no h0];exact h
end Go.AM
namespace Go.AM
open Go
section
end
end Go.AM
namespace Go.AM
open List Go
def zch(n:Nd):List Nat:=([n.a,n.b,n.c].take (zai n.op).toNat).map Int.toNat
def kids(L:List Nd)(t:Nat):List Nat:=match L[t-1]? with
 |some n=>zch n
 |none=>[]
structure Dag(L:List Nd):Prop where
 a:∀(i:Nat) m,L[i]?=some m→(zai m.op≥1∧1≤m.a∧m.a≤i)∨(zai m.op<1∧m.a=0)
 b:∀(i:Nat) m,L[i]?=some m→(zai m.op≥2∧1≤m.b∧m.b≤i)∨(zai m.op<2∧m.b=0)
 c:∀(i:Nat) m,L[i]?=some m→(zai m.op≥3∧1≤m.c∧m.c≤i)∨(zai m.op<3∧m.c=0)
theorem Dag.nil:Dag []:=⟨fun i m h=>(by cases h),fun i m h=>(by cases h),fun i m h=>(by cases h)⟩
theorem zi3{L:List Nd}{n m:Nd}{i:Nat}(h:(L++[n])[i]?=some m):L[i]?=some m∨(i=L.length∧m=n):=by
 rw[List.getElem?_append]at h;split at h
 ·exact .inl h
 ·have:i=L.length:=by have:=(List.getElem?_eq_some_iff.1 h).1;simp at this;omega
  subst this;simp at h;exact .inr ⟨rfl,h.symm⟩
theorem mk_dag{lim:Int}{L:List Nd}{K:List (ByteArray×Int)}{n:Nd}(h:Dag L):Dag (mkR lim L K n).2.2.1:=by
 by_cases h0:(mkR lim L K n).2.1=0
 ·obtain⟨hr,⟨q,hq,e⟩|⟨hq,hl,e⟩⟩:=zis h0
  ·rw[e];exact h
  ·rw[e];have h1:=hr.pt;have h2:=hr.sp;unfold zbP at h1;unfold zd3 at h2;simp only[Bool.or_eq_true,Bool.and_eq_true,decide_eq_true_eq,Bool.not_eq_true',not_or,not_and,Bool.not_eq_false]at h1 h2;refine⟨fun i m hm=>?_,fun i m hm=>?_,fun i m hm=>?_⟩
   ·rcases zi3 hm with hm|⟨rfl,rfl⟩
    ·exact h.a i m hm
    ·rcases Int.lt_or_le (zai m.op) 1 with q|q
     ·have:=h2.1.1.1.1 q;omega
     ·have:=zaV.1 (h1.1.1 q);omega
   ·rcases zi3 hm with hm|⟨rfl,rfl⟩
    ·exact h.b i m hm
    ·rcases Int.lt_or_le (zai m.op) 2 with q|q
     ·have:=h2.1.1.1.2 q;omega
     ·have:=zaV.1 (h1.1.2 q);omega
   ·rcases zi3 hm with hm|⟨rfl,rfl⟩
    ·exact h.c i m hm
    ·rcases Int.lt_or_le (zai m.op) 3 with q|q
     ·have:=h2.1.1.2 q;omega
     ·have:=zaV.1 (h1.2 q);omega
 ·rw[mk_no h0];exact h
theorem ziD{L:List Nd}(h:Dag L){i:Nat}{n:Nd}(hn:L[i]?=some n):(zch n).length=(zai n.op).toNat ∧
  (∀(j:Nat) x,[n.a,n.b,n.c][j]?=some x→j<(zch n).length→(zch n)[j]?=some x.toNat∧1≤x∧x≤i)∧(∀c∈zch n,1≤c∧c≤i):=by
 have ha:=h.a i n hn;have hb:=h.b i n hn;have hc:=h.c i n hn;have key:(zch n).length=(zai n.op).toNat∧(∀(j:Nat) x,[n.a,n.b,n.c][j]?=some x→j<(zch n).length→(zch n)[j]?=some x.toNat∧1≤x∧x≤i):=by
  rcases zcW n.op with q|q|q|q
  ·refine⟨by simp[zch,q],fun j x hx hj=>?_⟩;simp[zch,q]at hj
  ·refine⟨by simp[zch,q],fun j x hx hj=>?_⟩;simp[zch,q]at hj;subst hj;simp at hx;subst hx;exact⟨by simp[zch,q],by omega,by omega⟩
  ·refine⟨by simp[zch,q],fun j x hx hj=>?_⟩;simp[zch,q]at hj
   match j,hj with
   |0,_=>simp at hx;subst hx;exact⟨by simp[zch,q],by omega,by omega⟩
   |1,_=>simp at hx;subst hx;exact⟨by simp[zch,q],by omega,by omega⟩
  ·refine⟨by simp[zch,q],fun j x hx hj=>?_⟩;simp[zch,q]at hj
   match j,hj with
   |0,_=>simp at hx;subst hx;exact⟨by simp[zch,q],by omega,by omega⟩
   |1,_=>simp at hx;subst hx;exact⟨by simp[zch,q],by omega,by omega⟩
   |2,_=>simp at hx;subst hx;exact⟨by simp[zch,q],by omega,by omega⟩
 refine⟨key.1,key.2,fun c hcm=>?_⟩;obtain⟨j,hj⟩:=List.getElem?_of_mem hcm;have hlt:=(List.getElem?_eq_some_iff.1 hj).1;have hle:j<3:=by have h1:=key.1;rcases zcW n.op with q|q|q|q<;>rw[q]at h1<;>simp at h1<;>omega
 obtain⟨x,hx⟩:∃x,[n.a,n.b,n.c][j]?=some x:=⟨_,List.getElem?_eq_getElem (by simpa using hle)⟩
 obtain⟨h1,h2,h3⟩:=key.2 j x hx hlt;rw[hj]at h1;cases h1;omega
theorem zfF{L:List Nd}(h:Dag L){t c:Nat}(ht:1≤t)(hc:c∈kids L t):1≤c∧c<t:=by
 unfold kids at hc;cases hq:L[t-1]? with
 |none=>rw[hq]at hc;cases hc
 |some n=>
  rw[hq]at hc;have:=(ziD h hq).2.2 c hc;omega
def visit(L:List Nd):Nat→Nat→List Nat→List Nat
 |0,_,out=>out
 |k+1,t,out=>if t∈out then out else (kids L t).foldl (fun o c=>visit L k c o) out++[t]
theorem zfI{α β:Type}{f g:α→β→α}:∀(l:List β) (a:α),(∀b∈l,∀a,f a b=g a b)→l.foldl f a=l.foldl g a
 |[],a,h=>rfl
 |b::l,a,h=>by rw[foldl_cons,foldl_cons,h b (mem_cons_self ..)];exact zfI l _ fun b hb=>h b (mem_cons_of_mem _ hb)
theorem zoN{L:List Nd}(h:Dag L):∀(t:Nat),1≤t→∀(k m:Nat) (out:List Nat),t≤k→t≤m→visit L k t out=visit L m t out:=by
 intro t;induction t using Nat.strongRecOn with
 |_ t ih=>
  intro ht k m out hk hm;cases k with
  |zero=>omega
  |succ k=>
   cases m with
   |zero=>omega
   |succ m=>
    unfold visit;split
    ·rfl
    ·congr 1;exact zfI _ _ fun c hc o=>by have:=zfF h ht hc;exact ih c this.2 this.1 k m o (by omega) (by omega)
def post(L:List Nd)(t:Nat)(out:List Nat):List Nat:=visit L t t out
def posts(L:List Nd)(l:List Nat)(out:List Nat):List Nat:=l.foldl (fun o c=>post L c o) out
theorem zh5{L:List Nd}(h:Dag L){t:Nat}(ht:1≤t)(out:List Nat):post L t out=if t∈out then out else posts L (kids L t) out++[t]:=by
 unfold post posts;cases t with
 |zero=>omega
 |succ t=>
  show (if t+1∈out then out else _)=_;split
  ·rfl
  ·congr 1;exact zfI _ _ fun c hc o=>by have:=zfF h (t:=t+1) ht hc;exact zoN h c this.1 _ _ o (by omega) (Nat.le_refl _)
theorem post_in{L:List Nd}(h:Dag L){t:Nat}(ht:1≤t){out:List Nat}(hm:t∈out):post L t out=out:=by rw[zh5 h ht,if_pos hm]
theorem znZ{L:List Nd}(h:Dag L){t:Nat}(ht:1≤t){out:List Nat}(hm:t∉out):post L t out=posts L (kids L t) out++[t]:=by rw[zh5 h ht,if_neg hm]
theorem zn0{L:List Nd}(h:Dag L):∀(t:Nat),1≤t→∀(out:List Nat),(∀x∈out,x∈post L t out)∧t∈post L t out∧(∀x∈post L t out,x∈out∨(1≤x∧x≤t)):=by
 intro t;induction t using Nat.strongRecOn with
 |_ t ih=>
  intro ht out;rw[zh5 h ht];split
  ·rename_i hm;exact⟨fun x hx=>hx,hm,fun x hx=>.inl hx⟩
  ·have key:∀(l:List Nat) (o:List Nat),(∀c∈l,c∈kids L t)→(∀x∈o,x∈posts L l o)∧(∀x∈posts L l o,x∈o∨(1≤x∧x<t)):=by
    intro l;induction l with
    |nil=>exact fun o _=>⟨fun x hx=>hx,fun x hx=>.inl hx⟩
    |cons c l ihl=>
     intro o hl;have hc:=zfF h ht (hl c (mem_cons_self ..));obtain⟨g1,g2,g3⟩:=ih c hc.2 hc.1 o;obtain⟨k1,k2⟩:=ihl (post L c o) fun c hc=>hl c (mem_cons_of_mem _ hc);refine⟨fun x hx=>k1 x (g1 x hx),fun x hx=>?_⟩;rcases k2 x hx with q|q
     ·rcases g3 x q with q|q
      ·exact .inl q
      ·exact .inr ⟨q.1,by omega⟩
     ·exact .inr q
   obtain⟨k1,k2⟩:=key (kids L t) out fun c hc=>hc;refine⟨fun x hx=>mem_append_left _ (k1 x hx),by simp,fun x hx=>?_⟩;rcases mem_append.1 hx with q|q
   ·rcases k2 x q with q|q
    ·exact .inl q
    ·exact .inr ⟨q.1,by omega⟩
   ·rw[mem_singleton]at q;subst q;exact .inr ⟨ht,Nat.le_refl _⟩
theorem zjt(L:List Nd)(c:Nat)(l:List Nat)(out:List Nat):posts L (c::l) out=posts L l (post L c out):=rfl
theorem zcU{L:List Nd}(h:Dag L){N:Nat}:∀(l:List Nat) (o:List Nat),(∀c∈l,1≤c∧c≤N)→(∀x∈o,x∈posts L l o)∧(∀x∈l,x∈posts L l o)∧(∀x∈posts L l o,x∈o∨(1≤x∧x≤N))
 |[],o,hl=>⟨fun x hx=>hx,fun x hx=>(by cases hx),fun x hx=>.inl hx⟩
 |c::l,o,hl=>by
  have hc:=hl c (mem_cons_self ..);obtain⟨g1,g2,g3⟩:=zn0 h c hc.1 o;obtain⟨k1,k2,k3⟩:=zcU h l (post L c o) fun c hc=>hl c (mem_cons_of_mem _ hc);refine⟨fun x hx=>k1 x (g1 x hx),fun x hx=>?_,fun x hx=>?_⟩
  ·rcases mem_cons.1 hx with rfl|hx
   ·exact k1 _ g2
   ·exact k2 x hx
  ·rcases k3 x hx with q|q
   ·rcases g3 x q with q|q
    ·exact .inl q
    ·exact .inr ⟨q.1,by omega⟩
   ·exact .inr q
end Go.AM
namespace Go.AM
open Go
theorem s_t3a{α:Type}(x y z:Value)(k:Value→Option α):zac (.tuple #[x,y,z]) 0 k=k x:=rfl
theorem s_t3b{α:Type}(x y z:Value)(k:Value→Option α):zac (.tuple #[x,y,z]) 1 k=k y:=rfl
theorem s_t3c{α:Type}(x y z:Value)(k:Value→Option α):zac (.tuple #[x,y,z]) 2 k=k z:=rfl
theorem zaH{α:Type}(x y:Option α):br false x y=y:=rfl
theorem za0{α:Type}(x y:Option α):br true x y=x:=rfl
end Go.AM
namespace Go.AM
open List Go Go.ChangeShapes Go.WideShapes Go.ChangeAt Go.RowKit
theorem consL{α:Type}{l:List α}{n:Nat}(h:l.length=n+1):∃a t,l=a::t∧t.length=n:=by
 cases l with
 |nil=>cases h
 |cons a t=>exact⟨a,t,rfl,by simpa using h⟩
theorem decL{X:Type}{ks:List Sc}{cells:X→List Value}{Q:X→Prop}(dec:∀l,OkL ks l→∃o:X,cells o=l∧Q o):∀Ls:List (List Value),(∀l∈Ls,OkL ks l)→∃os:List X,Ls=os.map cells∧∀o∈os,Q o
 |[],_=>⟨[],rfl,fun o h=>by cases h⟩
 |l::Ls,h=>by
  obtain⟨o,h1,h2⟩:=dec l (h l (mem_cons_self ..));obtain⟨os,h3,h4⟩:=decL dec Ls fun l hl=>h l (mem_cons_of_mem _ hl);refine⟨o::os,by rw[h3,map_cons,h1],fun x hx=>?_⟩;rcases mem_cons.1 hx with rfl|hx
  ·exact h2
  ·exact h4 x hx
open Go.Proofs.YtcbmccpkhagckaaGreatDoor in
theorem bulk1{HH:Type}(d:DataW HH):1≤Rows.uptoBulk d:=by cases d<;>first | (rename_i l;cases l<;>simp[Rows.uptoBulk])|simp[Rows.uptoBulk]
open Go.Proofs.YtcbmccpkhagckaaGreatDoor in
theorem zk5{HH:Type}:∀es:List (DataW HH),es.length≤Rows.uptoBulkAll es
 |[]=>Nat.zero_le _
 |d::r=>by have:=zk5 r;have:=bulk1 d;simp only[Rows.uptoBulkAll,length_cons];omega
end Go.AM
namespace Go.AM
open List Go
theorem zgN{S:List Value→Hp→Option Outc}{H:Hp}(n:Nat)(hs:∀i,i<n→S [.int .i64 (i:Int)] H=some (.next,[.int .i64 ((i+1:Nat):Int)],H))
  (he:S [.int .i64 (n:Int)] H=some (.exit 0,[.int .i64 (n:Int)],H)):∀k i,i+k=n→zau S [.int .i64 (i:Int)] H=some (.exit 0,[.int .i64 (n:Int)],H)
 |0,i,h=>by
  have:i=n:=by omega
  subst this;rw[zah,he];rfl
 |k+1,i,h=>by rw[zah,hs i (by omega)];exact zgN n hs he k (i+1) (by omega)
def noNd:Nd:=⟨0,0,0,0,0,0,⟨#[]⟩⟩
def zdc(L:List Nd)(t:Int):Nd:=if isT L t=true then (L[(t-1).toNat]?).getD noNd else noNd
theorem bnil{α:Type}(k:Value→Option α):zaE PP Am [] k=k noNd.val:=bld (by kernel_rfl) k
theorem ncell7{α:Type}(n:Nd)(k:Value→Option α):zaj 7 true n.cells 0 k=k n.val:=rfl
theorem nodes_at(L:List Nd):∀i n,L[i]?=some n→((L.flatMap Nd.cells).drop (i*7)).take 7=n.cells:=by
 induction L with
 |nil=>intro i o h;cases h
 |cons a L ih=>
  intro i o h;have h7:∀n:Nd,n.cells.length=7:=fun n=>rfl;rw[flatMap_cons];cases i with
  |zero=>cases h;rw[Nat.zero_mul,qd0,take_append_of_le_length (by rw[h7];omega),take_of_length_le (by rw[h7];omega)]
  |succ i=>
   rw[drop_append,drop_of_length_le (by rw[h7];omega),h7,nil_append,show (i+1)*7-7=i*7 by omega];exact ih i o h
theorem ld7{α:Type}{H:Hp}{L:List Nd}{y:Nat}{b:Bool}(h:H.get y=some (.cells (L.flatMap Nd.cells) b)){i:Nat}{n:Nd}(ho:L[i]?=some n)(k:Value→Option α) :
  zak 7 true H (.pointer (some ⟨y,i*7,none⟩)) k=k n.val:=by
 have hlt:i<L.length:=(List.getElem?_eq_some_iff.1 ho).1;have h1:i*7+7≤(L.flatMap Nd.cells).length:=by rw[flat_len];omega
 simp only[zak,Hp.rdP,Hp.rd,h,zcf,h1,if_true,nodes_at L i n ho];rfl
theorem SlR.ix{H:Hp}{L:List Nd}{sl:Value}(h:SlR H sl L){i:Nat}(hi:i<L.length){α:Type} :
  ∃y,H.get y=some (.cells (L.flatMap Nd.cells) true)∧∀(k:Value→Option α),pIdx 7 sl (.int .i64 (i:Int)) k=k (.pointer (some ⟨y,i*7,none⟩)):=by
 rcases h with⟨rfl,_⟩|⟨y,rfl,hy⟩
 ·cases hi
 ·refine⟨y,hy,fun k=>?_⟩;unfold pIdx idxV;have:(7:Nat)=7∧(0:Int)≤(i:Int)∧(i:Int)<(L.length:Int):=⟨rfl,by omega,by omega⟩
  simp only[this,and_self,if_true,Nat.zero_add,Int.toNat_natCast]
end Go.AM
namespace Go.AM
open Go
theorem zhE{a b c i:Nat}(z:Foot a b c (.slice none 0 0) i):i=a∨i=b∨i=c:=by
 rcases z with z|z|z|z
 ·exact .inl z
 ·exact .inr (.inl z)
 ·exact .inr (.inr z)
 ·cases z
theorem zl1{α:Type}(n:Nd)(k:Value→Option α):zaj 1 false n.cells 2 k=k (.int .i64 n.a):=zd6 _ 2 _ rfl k
theorem zl0{α:Type}(n:Nd)(k:Value→Option α):zaj 1 false n.cells 3 k=k (.int .i64 n.b):=zd6 _ 3 _ rfl k
theorem zoh{α:Type}(n:Nd)(k:Value→Option α):zaj 1 false n.cells 4 k=k (.int .i64 n.c):=zd6 _ 4 _ rfl k
end Go.AM
namespace Go.AM
open List Go
def ints(l:List Nat):List Value:=l.map fun (t:Nat)=>Value.int .i64 (t:Int)
def zk6(l:List Bool):List Value:=l.map .bool
def plc(x:Nat×Nat):List Value:=[.int .i64 (x.1:Int),.int .i64 (x.2:Int)]
def zci(l:List (Nat×Nat)):List Value:=l.flatMap plc
theorem ints_app(l m:List Nat):ints (l++m)=ints l++ints m:=by simp[ints]
theorem zeb:∀l:List (Nat×Nat),(zci l).length=l.length*2
 |[]=>rfl
 |x::l=>by show (plc x++zci l).length=_;rw[length_append,zeb l,length_cons];show 2+_=_;omega
theorem zec(l m:List (Nat×Nat)):zci (l++m)=zci l++zci m:=by simp[zci]
theorem zju:∀l:List (Nat×Nat),(zci l).all one=true
 |[]=>rfl
 |x::l=>by show (plc x++zci l).all one=true;rw[all_append,zju l];rfl
theorem zmV(l:List (Nat×Nat))(x:Nat×Nat):(zci (l++[x]))[l.length*2]?=some (.int .i64 (x.1:Int))∧(zci (l++[x]))[l.length*2+1]?=some (.int .i64 (x.2:Int)):=by
 rw[zec];have h:=zeb l;constructor
 ·rw[List.getElem?_append_right (by omega),h,Nat.sub_self];rfl
 ·rw[List.getElem?_append_right (by omega),h,Nat.add_sub_cancel_left];rfl
structure PS(H0 H:Hp)(lv:Value)(out:List Nat)(sv:Value)(stk:List (Nat×Nat))(bv:Value)(seen:List Bool):Prop where
 next:H0.next≤H.next
 old:∀j,j<H0.next→H.get j=H0.get j
 l:Vec H 1 lv out.length (ints out)
 s:Vec H 2 sv stk.length (zci stk)
 b:Vec H 1 bv seen.length (zk6 seen)
 al:∀j,Id lv j→H0.next≤j
 as':∀j,Id sv j→H0.next≤j
 ab:∀j,Id bv j→H0.next≤j
 ls:∀j,Id lv j→¬Id sv j
 lb:∀j,Id lv j→¬Id bv j
 sb:∀j,Id sv j→¬Id bv j
section
variable {H0 H:Hp}{lv sv bv:Value}{out:List Nat}{stk:List (Nat×Nat)}{seen:List Bool}(h:PS H0 H lv out sv stk bv seen)
include h
theorem PS.at0{p f g:Nat}{lim:Int}{L:List Nd}{K:List (ByteArray×Int)}{sl:Value}(hst:StF H0 p lim L K sl f g):StF H p lim L K sl f g:=
 hst.keep (fun i hi=>h.old i (hst.foot_lt hi)) h.next
theorem PS.see{i:Nat}(hi:i<seen.length):∃y,Id bv y∧(∀(α:Type) (kd:IntKind) (k:Value→Option α),pIdx 1 bv (.int kd (i:Int)) k=k (.pointer (some ⟨y,i*1,none⟩))) ∧
  ∃H',(∀(α:Type) (k:Hp→Option α),zas 1 H (.pointer (some ⟨y,i*1,none⟩)) (.bool true) k=k H')∧PS H0 H' lv out sv stk bv (seen.set i true)∧H'.next=H.next:=by
 obtain⟨y,hy,_,hix⟩:=h.b.ix hi;have hl:(zk6 seen).length=seen.length:=by simp[zk6]
 obtain⟨H',h1,h2,h3,h4⟩:=h.b.set hy (m:=1) (o:=i*1) (x:=.bool true) rfl (by rw[hl];omega) rfl;refine⟨y,hy,hix,H',h1,⟨?_,fun j hj=>?_,h.l.keep h3 h.lb,h.s.keep h3 h.sb,?_,h.al,h.as',h.ab,h.ls,h.lb,h.sb⟩,h4⟩
 ·rw[h4];exact h.next
 ·rw[h3.same j (Nat.lt_of_lt_of_le hj h.next) (fun q=>by have:=h.ab j q;omega),h.old j hj]
 ·have e:spl (zk6 seen) (i*1) (zab (.bool true))=zk6 (seen.set i true):=by unfold spl zk6;show (seen.map Value.bool).take (i*1)++[Value.bool true]++(seen.map Value.bool).drop (i*1+1)=_;rw[Nat.mul_one,map_set,set_eq_take_append_cons_drop,if_pos (by simpa using hi)];simp
  rw[e]at h2;rw[length_set];exact h2
theorem PS.seen_at{i:Nat}{b:Bool}(hi:seen[i]?=some b):∃y,Id bv y∧(∀(α:Type) (kd:IntKind) (k:Value→Option α),pIdx 1 bv (.int kd (i:Int)) k=k (.pointer (some ⟨y,i*1,none⟩))) ∧
  (∀(α:Type) (k:Value→Option α),zak 1 false H (.pointer (some ⟨y,i*1,none⟩)) k=k (.bool b)):=by
 have hlt:=(List.getElem?_eq_some_iff.1 hi).1;obtain⟨y,hy,⟨rest,hg⟩,hix⟩:=h.b.ix hlt;exact⟨y,hy,hix,fun α k=>zfE hg (by rw[Nat.mul_one];unfold zk6;rw[List.getElem?_map,hi];rfl) k⟩
theorem PS.push(t:Nat){zs:List Value}(hz:zs.length=2)(hb:(stk.length+1)*16≤2^47) :
  ∃sv' H',(∀(α:Type) (k:Value→Hp→Option α),(zal 2 zs 1 [(0,.agg #[.int .i64 (t:Int),.int .i64 0])] H fun x H1=>zaF 2 16 sv x H1 k)=k sv' H')∧PS H0 H' lv out sv' (stk++[(t,0)]) bv seen:=by
 obtain⟨sv',H',h1,h2,h3,h4,h5⟩:=h.s.push (bytes:=16) (zs:=zs) (x:=.agg #[.int .i64 (t:Int),.int .i64 0]) (by decide) (by decide) hz rfl rfl hb;have hn:=h.next;refine⟨sv',H',h1,⟨Nat.le_trans h.next h3.next,fun j hj=>?_,h.l.keep h3 h.ls,?_,h.b.keep h3 (fun j a b=>h.sb j b a),h.al,fun j hj=>?_,h.ab,fun j a b=>?_,h.lb,fun j a b=>?_⟩⟩
 ·rw[h3.same j (Nat.lt_of_lt_of_le hj h.next) (fun q=>by have:=h.as' j q;omega),h.old j hj]
 ·have:zci (stk++[(t,0)])=zci stk++zab (.agg #[.int .i64 (t:Int),.int .i64 0]):=by rw[zec];rfl
  rw[this,length_append];exact h2
 ·rcases h4 j hj with q|q
  ·exact h.as' j q
  ·omega
 ·rcases h4 j b with q|q
  ·exact h.ls j a q
  ·have:=h.l.lt a;omega
 ·rcases h4 j a with q|q
  ·exact h.sb j q b
  ·have:=h.b.lt b;omega
theorem PS.pop{below:List (Nat×Nat)}{x:Nat×Nat}(hs:stk=below++[x]):∃sv',(∀(α:Type) (kd:IntKind) (k:Value→Option α),zda 2 sv none (some (.int kd (below.length:Int))) k=k sv')∧PS H0 H lv out sv' below bv seen:=by subst hs;obtain⟨sv',h1,h2,h3⟩:=h.s.cut (zju _) (m:=below.length) (by simp);refine⟨sv',h1,⟨h.next,h.old,h.l,?_,h.b,h.al,fun j a=>h.as' j (h3 j a),h.ab,fun j a b=>h.ls j a (h3 j b),h.lb,fun j a b=>h.sb j (h3 j a) b⟩⟩;rw[zec,List.take_left' (zeb below)]at h2;exact h2
theorem PS.tell(t:Nat)(hb:(out.length+1)*8≤2^47) :
  ∃lv' H',(∀(α:Type) (k:Value→Hp→Option α),(zal 1 [.int .i64 0] 1 [(0,.int .i64 (t:Int))] H fun x H1=>zaF 1 8 lv x H1 k)=k lv' H')∧PS H0 H' lv' (out++[t]) sv stk bv seen:=by
 obtain⟨lv',H',h1,h2,h3,h4,h5⟩:=h.l.push (bytes:=8) (zs:=[.int .i64 0]) (x:=.int .i64 (t:Int)) (by decide) (by decide) rfl rfl rfl hb;have hn:=h.next;refine⟨lv',H',h1,⟨Nat.le_trans h.next h3.next,fun j hj=>?_,?_,h.s.keep h3 (fun j a b=>h.ls j b a),h.b.keep h3 (fun j a b=>h.lb j b a),fun j hj=>?_,h.as',h.ab,fun j a b=>?_,fun j a b=>?_,h.sb⟩⟩
 ·rw[h3.same j (Nat.lt_of_lt_of_le hj h.next) (fun q=>by have:=h.al j q;omega),h.old j hj]
 ·rw[ints_app,length_append];exact h2
 ·rcases h4 j hj with q|q
  ·exact h.al j q
  ·omega
 ·rcases h4 j a with q|q
  ·exact h.ls j q b
  ·have:=h.s.lt b;omega
 ·rcases h4 j a with q|q
  ·exact h.lb j q b
  ·have:=h.b.lt b;omega
theorem PS.step{below:List (Nat×Nat)}{t j:Nat}(hs:stk=below++[(t,j)]):∃y,(∀(α:Type) (kd:IntKind) (k:Value→Option α),pIdx 2 sv (.int kd (below.length:Int)) k=k (.pointer (some ⟨y,below.length*2,none⟩))) ∧
  (∀(α:Type) (k:Value→Option α),zak 1 false H (.pointer (some ⟨y,below.length*2,none⟩)) k=k (.int .i64 (t:Int))) ∧
  (∀(α:Type) (k:Value→Option α),zak 1 false H (.pointer (some ⟨y,below.length*2+1,none⟩)) k=k (.int .i64 (j:Int))) ∧
  Hp.rdP H (.pointer (some ⟨y,below.length*2+1,none⟩)) 1 false=some (.int .i64 (j:Int)) ∧
  ∃H',(∀(α:Type) (k:Hp→Option α),zas 1 H (.pointer (some ⟨y,below.length*2+1,none⟩)) (.int .i64 ((j+1:Nat):Int)) k=k H')∧PS H0 H' lv out sv (below++[(t,j+1)]) bv seen:=by
 subst hs;have hlt:below.length<(below++[(t,j)]).length:=by simp
 obtain⟨y,hy,⟨rest,hg⟩,hix⟩:=h.s.ix hlt;obtain⟨p1,p2⟩:=zmV below (t,j);have hl:(zci (below++[(t,j)])).length=below.length*2+2:=by rw[zeb,length_append];simp;omega
 obtain⟨H',h1,h2,h3,h4⟩:=h.s.set hy (m:=1) (o:=below.length*2+1) (x:=.int .i64 ((j+1:Nat):Int)) rfl (by rw[hl];omega) rfl;refine⟨y,hix,fun α k=>zfE hg p1 k,fun α k=>zfE hg p2 k,?_,H',h1,⟨by rw[h4];exact h.next,fun i hi=>?_,h.l.keep h3 h.ls,?_,h.b.keep h3 (fun i a b=>h.sb i b a),h.al,h.as',h.ab,h.ls,h.lb,h.sb⟩⟩
 ·have:(zci (below++[(t,j)])++rest)[below.length*2+1]?=some (.int .i64 (j:Int)):=by rw[List.getElem?_append_left (by omega)];exact p2
  simp only[Hp.rdP,Hp.rd,hg,zcf,this]
 ·rw[h3.same i (Nat.lt_of_lt_of_le hi h.next) (fun q=>by have:=h.as' i q;omega),h.old i hi]
 ·have e:spl (zci (below++[(t,j)])) (below.length*2+1) (zab (.int .i64 ((j+1:Nat):Int)))=zci (below++[(t,j+1)]):=by
   rw[zec,zec];unfold spl;have hb:=zeb below;show (zci below++[Value.int .i64 (t:Int),Value.int .i64 (j:Int)]).take (below.length*2+1)++[Value.int .i64 ((j+1:Nat):Int)]++(zci below++[Value.int .i64 (t:Int),Value.int .i64 (j:Int)]).drop (below.length*2+1+1)=zci below++[Value.int .i64 (t:Int),Value.int .i64 ((j+1:Nat):Int)]
   rw[take_append,hb,drop_append,hb,take_of_length_le (by omega),drop_of_length_le (by omega),Nat.add_sub_cancel_left,show below.length*2+1+1-below.length*2=2 by omega];simp
  rw[e]at h2;rw[length_append]at h2 ⊢;exact h2
end
theorem zin:∀(n:Nat) (l:List Nat),l.Nodup→(∀x∈l,1≤x∧x≤n)→l.length≤n
 |0,l,_,h=>by
  cases l with
  |nil=>simp
  |cons a l=>have:=h a (mem_cons_self ..);omega
 |n+1,l,hn,h=>by
  by_cases hm:n+1∈l
  ·have h1:=zin n (l.erase (n+1)) (hn.erase _) fun x hx=>by have:=(List.Nodup.mem_erase_iff hn).1 hx;have:=h x this.2;omega
   rw[length_erase_of_mem hm]at h1;omega
  ·have:=zin n l hn fun x hx=>by have:=h x hx;have:x≠n+1:=fun e=>hm (e▸hx);omega
   omega
theorem zmU{L:List Nd}(h:Dag L):∀(t:Nat),1≤t→∀(out:List Nat),out.Nodup→(post L t out).Nodup:=by
 intro t;induction t using Nat.strongRecOn with
 |_ t ih=>
  intro ht out hn;rw[zh5 h ht];split
  ·exact hn
  ·rename_i hm;have key:∀(l:List Nat) (o:List Nat),(∀c∈l,c∈kids L t)→o.Nodup→(posts L l o).Nodup:=by
    intro l;induction l with
    |nil=>exact fun o _ h=>h
    |cons c l ihl=>
     intro o hl ho;have hc:=zfF h ht (hl c (mem_cons_self ..));exact ihl _ (fun c hc=>hl c (mem_cons_of_mem _ hc)) (ih c hc.2 hc.1 o ho)
   refine nodup_append.2 ⟨key _ _ (fun c hc=>hc) hn,by simp,fun x hx y hy=>?_⟩;rw[mem_singleton]at hy;subst hy;intro e;subst e;rcases (zcU h (N:=x-1) (kids L x) out fun c hc=>by have:=zfF h ht hc;omega).2.2 x hx with q|q
   ·exact hm q
   ·omega
theorem zf2{L:List Nd}(h:Dag L):∀(l:List Nat) (o:List Nat),(∀c∈l,1≤c)→o.Nodup→(posts L l o).Nodup
 |[],o,_,ho=>ho
 |c::l,o,hl,ho=>zf2 h l _ (fun c hc=>hl c (mem_cons_of_mem _ hc)) (zmU h c (hl c (mem_cons_self ..)) o ho)
structure Seen(N:Nat)(seen:List Bool)(out:List Nat)(stk:List (Nat×Nat)):Prop where
 len:seen.length=N+1
 at':∀x,x≤N→seen[x]?=some (decide (x∈out∨x∈stk.map Prod.fst))
structure Told(N:Nat)(out:List Nat):Prop where
 nd:out.Nodup
 bd:∀x∈out,1≤x∧x≤N
theorem Told.len{N:Nat}{out:List Nat}(h:Told N out):out.length≤N:=zin N out h.nd h.bd
theorem Told.posts{L:List Nd}{N:Nat}{out l:List Nat}(h:Told N out)(hd:Dag L)(hl:∀c∈l,1≤c∧c≤N):Told N (posts L l out):=
 ⟨zf2 hd l out (fun c hc=>(hl c hc).1) h.nd,fun x hx=>by
  rcases (zcU hd l out hl).2.2 x hx with q|q
  ·exact h.bd x q
  ·exact q⟩
theorem arr3{α:Type}{a b c:Int}{j:Nat}{x:Int}(h:[a,b,c][j]?=some x)(k:Value→Option α):zcj 3 false 1 (.agg #[.int .i64 a,.int .i64 b,.int .i64 c]) (.int .i64 (j:Int)) k=k (.int .i64 x):=by
 match j,h with
 |0,h=>cases h;rfl
 |1,h=>cases h;rfl
 |2,h=>cases h;rfl
 |n+3,h=>simp at h
theorem build72{α:Type}(t:Int)(k:Value→Option α):zaE PP BU [(0,.int .i64 t),(1,.int .i64 0)] k=k (.agg #[.int .i64 t,.int .i64 0]):=bld (by kernel_rfl) k
theorem zir{α:Type}(n:Nd)(k:Value→Option α):zaj 1 false n.cells 0 k=k (.int .i64 n.op):=zd6 _ 0 _ rfl k
theorem partsT_nn(op:Int):(0:Int)≤zai op∧zai op≤3:=by rcases zcW op with q|q|q|q<;>rw[q]<;>decide
theorem Seen.told{N:Nat}{seen:List Bool}{out:List Nat}{below:List (Nat×Nat)}{t j:Nat}(h:Seen N seen out (below++[(t,j)])):Seen N seen (out++[t]) below:=
 ⟨h.len,fun x hx=>by
  rw[h.at' x hx];congr 2;simp only[map_append,map_cons,map_nil,mem_append,mem_singleton,eq_iff_iff];constructor
  ·rintro (q|q|q)
   ·exact .inl (.inl q)
   ·exact .inr q
   ·exact .inl (.inr q)
  ·rintro ((q|q)|q)
   ·exact .inl q
   ·exact .inr (.inr q)
   ·exact .inr (.inl q)⟩
theorem Seen.next{N:Nat}{seen:List Bool}{out:List Nat}{below:List (Nat×Nat)}{t j i:Nat}(h:Seen N seen out (below++[(t,j)])):Seen N seen out (below++[(t,i)]):=
 ⟨h.len,fun x hx=>by rw[h.at' x hx];congr 2;simp⟩
theorem Seen.add{N:Nat}{seen:List Bool}{out:List Nat}{stk:List (Nat×Nat)}{c i:Nat}(h:Seen N seen out stk)(hc:c≤N):Seen N (seen.set c true) out (stk++[(c,i)]):=
 ⟨by rw[length_set];exact h.len,fun x hx=>by
  rw[List.getElem?_set];by_cases e:c=x
  ·subst e;rw[if_pos rfl,if_pos (by rw[h.len];omega)];simp
  ·rw[if_neg e,h.at' x hx];congr 2;have:¬x=c:=fun q=>e q.symm
   simp[this]⟩
section
variable {H0:Hp}{p f g:Nat}{lim:Int}{L:List Nd}{K:List (ByteArray×Int)}{sl:Value}(hst:StF H0 p lim L K sl f g)(hd:Dag L)(hL:L.length*64≤2^46)(bv:Value)
include hst hd hL
theorem fwd:∀t,1≤t→t≤L.length→∀(m j:Nat),j+m=(kids L t).length→∀(out:List Nat) (below:List (Nat×Nat)) (seen:List Bool) (H:Hp) (lv sv:Value),
  PS H0 H lv out sv (below++[(t,j)]) bv seen→Seen L.length seen out (below++[(t,j)])→Told L.length out→(∀x∈below,t<x.1)→below.length+t≤L.length→t∉out →
  ∃H' lv' sv' seen',zau (zay RR (.pointer (some ⟨p,0,none⟩)) bv) [lv,sv] H=zau (zay RR (.pointer (some ⟨p,0,none⟩)) bv) [lv',sv'] H' ∧
   PS H0 H' lv' (posts L ((kids L t).drop j) out++[t]) sv' below bv seen'∧Seen L.length seen' (posts L ((kids L t).drop j) out++[t]) below:=by
 intro t;induction t using Nat.strongRecOn with
 |_ t ih=>
  intro h1 hN m;obtain⟨n,hn⟩:∃n,L[t-1]?=some n:=⟨_,List.getElem?_eq_getElem (by omega)⟩
  have hk:kids L t=zch n:=by unfold kids;rw[hn]
  obtain⟨kl,kg,kb⟩:=ziD hd hn;have hpn:=partsT_nn n.op;induction m with
  |zero=>
   intro j hj out below seen H lv sv hp hs ht hb hbl hto;have hst':=hp.at0 hst;obtain⟨y,e1,e2,e3,e4,_⟩:=hp.step rfl;obtain⟨sl',hsl,hix⟩:=hst'.st.all.ix (i:=t-1) (by omega) (α:=Outc);have hol:=ht.len;obtain⟨lv1,H1,t1,p1⟩:=hp.tell t (by omega);obtain⟨sv1,c1,p2⟩:=p1.pop rfl;have hlen:(below++[(t,j)]).length=below.length+1:=by simp
   have w1:IntKind.i64.wrap (((below.length+1:Nat):Int)-1)=(below.length:Int):=by rw[zaz (by omega) (by omega)];omega
   have w2:IntKind.i64.wrap ((t:Int)-1)=((t-1:Nat):Int):=by rw[zaz (by omega) (by omega)];omega
   have q1:((below.length+1:Nat):Int)>0:=by omega
   have hjp:(j:Int)=zai n.op:=by rw[hk,kl]at hj;omega
   have e4':=e4;rw[hjp]at e4';have hls:∀{α:Type} (H':Hp) (k:Value→Option α),pLen .sl sv H' k=k (.int .i64 ((below.length+1:Nat):Int)):=fun H' k=>by rw[hp.s.len,hlen]
   have hdrop:(kids L t).drop j=[]:=drop_of_length_le (by omega);rw[hdrop];refine⟨H1,lv1,sv1,seen,?_,p2,hs.told⟩;rw[zah];have:zay RR (.pointer (some ⟨p,0,none⟩)) bv [lv,sv] H=some (.next,[lv1,sv1],H1):=by unfold zay;simp only[qg1,qg0,hls,zb8,q1,decide_true,zad,za0,zd5,w1,e1,zbA,zaK,Nat.zero_add,Nat.add_zero,hst'.st.l1,e2,e3,w2,hix,ld7 hsl hn,spl7,zir,zag (c29 _ _),zko e4',zaZ,hjp,t1,c1]
   rw[this];rfl
  |succ m ihm=>
   intro j hj out below seen H lv sv hp hs ht hb hbl hto;have hst':=hp.at0 hst;obtain⟨y,e1,e2,e3,e4,H1,e5,p1⟩:=hp.step rfl;obtain⟨sl',hsl,hix⟩:=hst'.st.all.ix (i:=t-1) (by omega) (α:=Outc);have hlen:(below++[(t,j)]).length=below.length+1:=by simp
   have w1:IntKind.i64.wrap (((below.length+1:Nat):Int)-1)=(below.length:Int):=by rw[zaz (by omega) (by omega)];omega
   have w2:IntKind.i64.wrap ((t:Int)-1)=((t-1:Nat):Int):=by rw[zaz (by omega) (by omega)];omega
   have w3:IntKind.i64.wrap ((j:Int)+1)=((j+1:Nat):Int):=by
    have:j<3:=by rw[hk,kl]at hj;omega
    exact zaz (by omega) (by omega)
   have q1:((below.length+1:Nat):Int)>0:=by omega
   have hjp:¬(j:Int)=zai n.op:=by rw[hk,kl]at hj;omega
   have hj3:j<3:=by rw[hk,kl]at hj;omega
   obtain⟨x,hx⟩:∃x,[n.a,n.b,n.c][j]?=some x:=⟨_,List.getElem?_eq_getElem (by simpa using hj3)⟩
   obtain⟨g1,g2,g3⟩:=kg j x hx (by rw[hk]at hj;omega);have hls:∀{α:Type} (H':Hp) (k:Value→Option α),pLen .sl sv H' k=k (.int .i64 ((below.length+1:Nat):Int)):=fun H' k=>by rw[hp.s.len,hlen]
   have hxc:x=((x.toNat:Nat):Int):=by omega
   generalize x.toNat=c at g1 hxc;subst hxc;have hcN:c≤L.length:=by omega
   have hct:c<t:=by omega
   have hc1:1≤c:=by omega
   have hdrop:(kids L t).drop j=c::(kids L t).drop (j+1):=by rw[hk];have hlt:j<(zch n).length:=(List.getElem?_eq_some_iff.1 g1).1;rw[drop_eq_getElem_cons hlt];have:(zch n)[j]=c:=(List.getElem?_eq_some_iff.1 g1).2;rw[this]
   rw[hdrop,zjt];have hsc:=hs.at' c hcN;have hs1:Seen L.length seen out (below++[(t,j+1)]):=hs.next;by_cases hco:c∈out
   ·-- told
    have hsc':seen[c]?=some true:=by rw[hsc];congr 1;simp[hco]
    obtain⟨z,z0,z1,z2⟩:=p1.seen_at hsc';obtain⟨H',lv',sv',seen',r1,r2,r3⟩:=ihm (j+1) (by omega) out below seen H1 lv sv p1 hs1 ht hb hbl hto;rw[post_in hd hc1 hco];refine⟨H',lv',sv',seen',?_,r2,r3⟩;rw[←r1,zah];have:zay RR (.pointer (some ⟨p,0,none⟩)) bv [lv,sv] H=some (.next,[lv,sv],H1):=by unfold zay;simp only[qg1,qg0,hls,zb8,q1,decide_true,zad,za0,zaH,zd5,w1,e1,zbA,zaK,Nat.zero_add,Nat.add_zero,hst'.st.l1,e2,e3,w2,hix,ld7 hsl hn,spl7,zir,zl1,zl0,zoh,zag (c29 _ _),zko e4,zaZ,hjp,decide_false,zhu,arr3 hx,zaU,w3,e5,z1,z2,zbQ,Bool.not_true]
    rw[this];rfl
   ·have hcs:c∉(below++[(t,j)]).map Prod.fst:=fun q=>by
     simp only[map_append,map_cons,map_nil,mem_append,mem_singleton,mem_map]at q;rcases q with⟨u,hu,e⟩|e
     ·have:=hb u hu;omega
     ·omega
    have hsc':seen[c]?=some false:=by rw[hsc];congr 1;simpa[hco] using hcs
    obtain⟨z,z0,z1,z2⟩:=p1.seen_at hsc';have hclt:c<seen.length:=by rw[hs.len];omega
    obtain⟨z',hz',z3,H2,z4,p2,_⟩:=p1.see hclt;obtain rfl:z'=z:=Option.some.inj (hz'.symm.trans z0);have hlen1:(below++[(t,j+1)]).length=below.length+1:=by simp
    obtain⟨sv3,H3,z5,p3⟩:=p2.push c (zs:=[.int .i64 0,.int .i64 0]) rfl (by rw[hlen1];omega);have hs3:Seen L.length (seen.set c true) out ((below++[(t,j+1)])++[(c,0)]):=hs1.add hcN;have hkc:0+(kids L c).length=(kids L c).length:=by omega
    obtain⟨H4,lv4,sv4,seen4,r1,r2,r3⟩:=ih c hct hc1 hcN (kids L c).length 0 hkc out (below++[(t,j+1)]) (seen.set c true) H3 lv sv3 p3 hs3 ht
     (fun u hu=>by
      rcases mem_append.1 hu with hu|hu
      ·have:=hb u hu;omega
      ·rw[mem_singleton]at hu;subst hu;exact hct) (by rw[hlen1];omega) hco
    rw[qd0,←znZ hd hc1 hco]at r2 r3;have ht4:Told L.length (post L c out):=ht.posts (l:=[c]) hd fun c' hc'=>by rw[mem_singleton]at hc';subst hc';exact⟨hc1,hcN⟩
    have hto4:t∉post L c out:=fun q=>by
     rcases (zn0 hd c hc1 out).2.2 t q with q|q
     ·exact hto q
     ·omega
    obtain⟨H5,lv5,sv5,seen5,s1,s2,s3⟩:=ihm (j+1) (by omega) (post L c out) below seen4 H4 lv4 sv4 r2 r3 ht4 hb hbl hto4;refine⟨H5,lv5,sv5,seen5,?_,s2,s3⟩;rw[←s1,←r1,zah];have:zay RR (.pointer (some ⟨p,0,none⟩)) bv [lv,sv] H=some (.next,[lv,sv3],H3):=by unfold zay;simp only[qg1,qg0,hls,zb8,q1,decide_true,zad,za0,zaH,zd5,w1,e1,zbA,zaK,Nat.zero_add,Nat.add_zero,hst'.st.l1,e2,e3,w2,hix,ld7 hsl hn,spl7,zir,zl1,zl0,zoh,zag (c29 _ _),zko e4,zaZ,hjp,decide_false,zhu,arr3 hx,zaU,w3,e5,z1,z2,zbQ,Bool.not_false,z3,z4,build72,z5]
    rw[this];rfl
end
def zbR(l:List Int):List Value:=l.map fun (t:Int)=>Value.int .i64 t
theorem intsI_len(l:List Int):(zbR l).length=l.length:=by simp[zbR]
theorem zgk{l:List Int}{i:Nat}{t:Int}(h:l[i]?=some t):(zbR l)[i]?=some (.int .i64 t):=by simp[zbR,h]
theorem Rdb.int{H:Hp}{v:Value}{l:List Int}(h:Rdb H 1 v l.length (zbR l)){i:Nat}{t:Int}(ht:l[i]?=some t) :
  ∃y,(∀(α:Type) (kd:IntKind) (k:Value→Option α),pIdx 1 v (.int kd (i:Int)) k=k (.pointer (some ⟨y,i*1,none⟩)))∧(∀(α:Type) (k:Value→Option α),zak 1 false H (.pointer (some ⟨y,i*1,none⟩)) k=k (.int .i64 t)):=by
 obtain⟨y,hy,⟨rest,own,hg⟩,hix⟩:=h.ix (List.getElem?_eq_some_iff.1 ht).1;exact⟨y,hix,fun α k=>zfE hg (by rw[Nat.mul_one];exact zgk ht) k⟩
def RdO(H:Hp)(sz:Nat)(v:Value)(n:Nat)(cs:List Value):Prop:=
 (n=0∧cs=[]∧v=.slice none 0 0)∨∃y c pre rest own,v=.slice (some ⟨y,pre.length,some sz⟩) n c∧n≤c∧H.get y=some (.cells (pre++(cs++rest)) own)∧cs.length=n*sz∧y<H.next
theorem Rdb.o{H:Hp}{sz:Nat}{v:Value}{n:Nat}{cs:List Value}(h:Rdb H sz v n cs):RdO H sz v n cs:=by
 rcases h with e|⟨y,c,rest,own,rfl,h1,h2,h3,h4⟩
 ·exact .inl e
 ·exact .inr ⟨y,c,[],rest,own,rfl,h1,h2,h3,h4⟩
theorem RdO.len{H:Hp}{sz:Nat}{v:Value}{n:Nat}{cs:List Value}(h:RdO H sz v n cs){α:Type}(H':Hp)(k:Value→Option α):pLen .sl v H' k=k (.int .i64 n):=by rcases h with⟨rfl,_,rfl⟩|⟨y,c,pre,rest,own,rfl,_⟩<;>rfl
theorem RdO.lt{H:Hp}{sz:Nat}{v:Value}{n:Nat}{cs:List Value}(h:RdO H sz v n cs){j:Nat}(hj:Id v j):j<H.next:=by
 rcases h with⟨_,_,rfl⟩|⟨y,c,pre,rest,own,rfl,_,_,_,h⟩
 ·cases hj
 ·cases hj;exact h
theorem RdO.keep'{H H':Hp}{sz:Nat}{v:Value}{n:Nat}{cs:List Value}(h:RdO H sz v n cs)(hg:∀j,Id v j→H'.get j=H.get j)(hn:H.next≤H'.next):RdO H' sz v n cs:=by
 rcases h with e|⟨y,c,pre,rest,own,rfl,h1,h2,h3,h4⟩
 ·exact .inl e
 ·exact .inr ⟨y,c,pre,rest,own,rfl,h1,by rw[hg y rfl];exact h2,h3,Nat.lt_of_lt_of_le h4 hn⟩
theorem RdO.keep{M:Nat→Prop}{H H':Hp}{sz:Nat}{v:Value}{n:Nat}{cs:List Value}(h:RdO H sz v n cs)(k:Frm M H H')(hm:∀j,Id v j→¬M j):RdO H' sz v n cs:=
 h.keep' (fun j hj=>k.same j (h.lt hj) (hm j hj)) k.next
theorem RdO.at1{H:Hp}{v:Value}{n:Nat}{cs:List Value}(h:RdO H 1 v n cs){i:Nat}{z:Value}(hz:cs[i]?=some z) :
  ∃y,(∀(α:Type) (kd:IntKind) (k:Value→Option α),pIdx 1 v (.int kd (i:Int)) k=k y)∧(∀(α:Type) (k:Value→Option α),zak 1 false H y k=k z):=by
 have hlt:=(List.getElem?_eq_some_iff.1 hz).1;rcases h with⟨_,rfl,_⟩|⟨y,c,pre,rest,own,rfl,h1,h2,h3,h4⟩
 ·cases hz
 ·rw[Nat.mul_one]at h3;refine⟨.pointer (some ⟨y,pre.length+i*1,none⟩),fun α kd k=>?_,fun α k=>?_⟩
  ·unfold pIdx idxV;have:(1:Nat)=1∧(0:Int)≤(i:Int)∧(i:Int)<(n:Int):=⟨rfl,by omega,by omega⟩
   simp only[this,and_self,if_true,Int.toNat_natCast]
  ·refine zbi h2 (pre.length+i*1) z ?_ k;rw[Nat.mul_one,List.getElem?_append_right (by omega),Nat.add_sub_cancel_left,List.getElem?_append_left hlt,hz]
theorem RdO.int{H:Hp}{v:Value}{l:List Int}(h:RdO H 1 v l.length (zbR l)){i:Nat}{t:Int}(ht:l[i]?=some t) :
  ∃y,(∀(α:Type) (kd:IntKind) (k:Value→Option α),pIdx 1 v (.int kd (i:Int)) k=k y)∧(∀(α:Type) (k:Value→Option α),zak 1 false H y k=k (.int .i64 t)):=h.at1 (zgk ht)
theorem zne{H:Hp}{p f g:Nat}{lim:Int}{L:List Nd}{K:List (ByteArray×Int)}{sl:Value}(hst:StF H p lim L K sl f g){x:Value}{rs:List Int}(hx:RdO H 1 x rs.length (zbR rs))(hl:rs.length≤2^40) :
  ∀k i,i+k=rs.length→zau (zaR RR (.pointer (some ⟨p,0,none⟩)) x (.int .i64 (rs.length:Int))) [.int .i64 (i:Int)] H =
   if (rs.drop i).all (isT L)=true then some (.exit 0,[.int .i64 (rs.length:Int)],H) else some (.ret,[.tuple #[.slice none 0 0,.int .i64 70]],H)
 |0,i,h=>by
  have:i=rs.length:=by omega
  subst this;rw[zah];have:zaR RR (.pointer (some ⟨p,0,none⟩)) x (.int .i64 (rs.length:Int)) [.int .i64 (rs.length:Int)] H=some (.exit 0,[.int .i64 (rs.length:Int)],H):=by unfold zaR;simp only[zbh,zad,zaH,qg0,Int.lt_irrefl,decide_false]
  rw[this,drop_of_length_le (Nat.le_refl _)];rfl
 |k+1,i,h=>by
  have hlt:i<rs.length:=by omega
  have hg:rs[i]?=some rs[i]:=List.getElem?_eq_getElem hlt;obtain⟨y,e1,e2⟩:=hx.int hg;have w:IntKind.i64.wrap ((i:Int)+1)=((i+1:Nat):Int):=zaz (by omega) (by omega);have q:(i:Int)<(rs.length:Int):=by omega
  rw[zah,drop_eq_getElem_cons hlt,all_cons];cases ht:isT L rs[i] with
  |true=>
   have:zaR RR (.pointer (some ⟨p,0,none⟩)) x (.int .i64 (rs.length:Int)) [.int .i64 (i:Int)] H=some (.next,[.int .i64 ((i+1:Nat):Int)],H):=by unfold zaR;simp only[zbh,zad,za0,zaH,qg0,q,decide_true,e1,e2,zag (c19 hst.st),ht,zbQ,Bool.not_true,zaU,w]
   rw[this];show zau _ _ _=_;rw[zne hst hx hl k (i+1) (by omega),Bool.true_and]
  |false=>
   have:zaR RR (.pointer (some ⟨p,0,none⟩)) x (.int .i64 (rs.length:Int)) [.int .i64 (i:Int)] H=some (.ret,[.tuple #[.slice none 0 0,.int .i64 70]],H):=by unfold zaR;simp only[zbh,zad,za0,zaH,qg0,q,decide_true,e1,e2,zag (c19 hst.st),ht,zbQ,Bool.not_false]
   rw[this];rfl
theorem RdO.old{H0 H:Hp}{lv sv bv:Value}{out:List Nat}{stk:List (Nat×Nat)}{seen:List Bool}(h:PS H0 H lv out sv stk bv seen){x:Value}{n:Nat}{cs:List Value}(hx:RdO H0 1 x n cs):RdO H 1 x n cs:=
 hx.keep' (fun j hj=>h.old j (hx.lt hj)) h.next
section
variable {H0:Hp}{p f g:Nat}{lim:Int}{L:List Nd}{K:List (ByteArray×Int)}{sl:Value}(hst:StF H0 p lim L K sl f g)(hd:Dag L)(hL:L.length*64≤2^46)(bv:Value)
 {x:Value}{ns:List Nat}(hx:RdO H0 1 x ns.length (ints ns))(hns:∀t∈ns,1≤t∧t≤L.length)(hnl:ns.length≤2^40)
include hst hd hL hx hns hnl
theorem znd:∀(k i:Nat) (out:List Nat) (seen:List Bool) (H:Hp) (lv sv:Value),i+k=ns.length→PS H0 H lv out sv [] bv seen→Seen L.length seen out []→Told L.length out →
  ∃H' lv' sv' seen',zau (zaQ RR (.pointer (some ⟨p,0,none⟩)) x bv (.int .i64 (ns.length:Int))) [lv,sv,.int .i64 (i:Int)] H=some (.exit 2,[lv',sv',.int .i64 (ns.length:Int)],H') ∧
   PS H0 H' lv' (posts L (ns.drop i) out) sv' [] bv seen'
 |0,i,out,seen,H,lv,sv,hi,hp,hs,ht=>by
  have:i=ns.length:=by omega
  subst this;refine⟨H,lv,sv,seen,?_,?_⟩
  ·rw[zah];have:zaQ RR (.pointer (some ⟨p,0,none⟩)) x bv (.int .i64 (ns.length:Int)) [lv,sv,.int .i64 (ns.length:Int)] H=some (.exit 2,[lv,sv,.int .i64 (ns.length:Int)],H):=by unfold zaQ;simp only[zbh,zad,zaH,qg1,qg0,Int.lt_irrefl,decide_false]
   rw[this];rfl
  ·rw[drop_of_length_le (Nat.le_refl _)];exact hp
 |k+1,i,out,seen,H,lv,sv,hi,hp,hs,ht=>by
  have hlt:i<ns.length:=by omega
  have hg:ns[i]?=some ns[i]:=List.getElem?_eq_getElem hlt;have hb:=hns _ (getElem_mem hlt);have hdr:ns.drop i=ns[i]::ns.drop (i+1):=drop_eq_getElem_cons hlt;rw[hdr,zjt];generalize ns[i]=t at hg hb;have hxH:=RdO.old hp hx;obtain⟨y,e1,e2⟩:=hxH.at1 (z:=.int .i64 (t:Int)) (by unfold ints;rw[List.getElem?_map,hg];rfl);have w:IntKind.i64.wrap ((i:Int)+1)=((i+1:Nat):Int):=zaz (by omega) (by omega);have q:(i:Int)<(ns.length:Int):=by omega
  have hsc:=hs.at' t hb.2;by_cases hto:t∈out
  ·have hsc':seen[t]?=some true:=by rw[hsc];congr 1;simp[hto]
   obtain⟨z,z0,z1,z2⟩:=hp.seen_at hsc';rw[post_in hd hb.1 hto];obtain⟨H',lv',sv',seen',r1,r2⟩:=znd k (i+1) out seen H lv sv (by omega) hp hs ht;refine⟨H',lv',sv',seen',?_,r2⟩;rw[zah];have:zaQ RR (.pointer (some ⟨p,0,none⟩)) x bv (.int .i64 (ns.length:Int)) [lv,sv,.int .i64 (i:Int)] H=some (.next,[lv,sv,.int .i64 ((i+1:Nat):Int)],H):=by unfold zaQ;simp only[zbh,zad,za0,qg1,qg0,q,decide_true,e1,e2,z1,z2,zaU,w]
   rw[this];exact r1
  ·have hsc':seen[t]?=some false:=by rw[hsc];congr 1;simp[hto]
   obtain⟨z,z0,z1,z2⟩:=hp.seen_at hsc';have hclt:t<seen.length:=by rw[hs.len];omega
   obtain⟨z',hz',z3,H2,z4,p2,_⟩:=hp.see hclt;obtain rfl:z'=z:=Option.some.inj (hz'.symm.trans z0);obtain⟨sv3,H3,z5,p3⟩:=p2.push t (zs:=[.int .i64 0,.int .i64 0]) rfl (by simp);have hs3:Seen L.length (seen.set t true) out ([]++[(t,0)]):=hs.add hb.2;obtain⟨H4,lv4,sv4,seen4,r1,r2,r3⟩:=fwd hst hd hL bv t hb.1 hb.2 (kids L t).length 0 (by omega) out [] (seen.set t true) H3 lv sv3 p3 hs3 ht (fun u hu=>by cases hu) (by simpa using hb.2) hto;rw[qd0,←znZ hd hb.1 hto]at r2 r3;have ht4:Told L.length (post L t out):=ht.posts (l:=[t]) hd fun c' hc'=>by rw[mem_singleton]at hc';subst hc';exact hb
   obtain⟨H',lv',sv',seen',s1,s2⟩:=znd k (i+1) (post L t out) seen4 H4 lv4 sv4 (by omega) r2 r3 ht4;refine⟨H',lv',sv',seen',?_,s2⟩;have hexit:zau (zay RR (.pointer (some ⟨p,0,none⟩)) bv) [lv4,sv4] H4=some (.exit 4,[lv4,sv4],H4):=by
    rw[zah];have:zay RR (.pointer (some ⟨p,0,none⟩)) bv [lv4,sv4] H4=some (.exit 4,[lv4,sv4],H4):=by unfold zay;simp only[qg1,qg0,r2.s.len,length_nil,zb8,zad];rfl
    rw[this];rfl
   rw[hexit]at r1;rw[zah];have:zaQ RR (.pointer (some ⟨p,0,none⟩)) x bv (.int .i64 (ns.length:Int)) [lv,sv,.int .i64 (i:Int)] H=some (.next,[lv4,sv4,.int .i64 ((i+1:Nat):Int)],H4):=by unfold zaQ;simp only[zbh,zad,za0,zaH,qg1,qg0,q,decide_true,e1,e2,z1,z2,z3,z4,build72,z5,r1,zan,za6,zaC,zaU,w]
   rw[this];exact s1
end
theorem zj8:∀n:Nat,repl n [.bool false]=zk6 (List.replicate n false)
 |0=>rfl
 |n+1=>by show [.bool false]++repl n [.bool false]=_;rw[zj8 n,replicate_succ];rfl
theorem zbw(ns:List Nat):ints ns=zbR (ns.map fun (t:Nat)=>(t:Int)):=by simp[ints,zbR]
theorem nats{L:List Nd}:∀rs:List Int,rs.all (isT L)=true→∃ns:List Nat,rs=ns.map (fun (t:Nat)=>(t:Int))∧∀t∈ns,1≤t∧t≤L.length
 |[],_=>⟨[],rfl,fun t h=>by cases h⟩
 |r::rs,h=>by
  rw[all_cons,Bool.and_eq_true]at h;obtain⟨ns,h1,h2⟩:=nats rs h.2;have:=zaV.1 h.1;refine⟨r.toNat::ns,by rw[map_cons,←h1];congr 1;omega,fun t ht=>?_⟩;rcases mem_cons.1 ht with rfl|ht
  ·omega
  ·exact h2 t ht
structure OrdOk(H0 H:Hp)(v:Value)(out:List Nat):Prop where
 vec:Vec H 1 v out.length (ints out)
 next:H0.next≤H.next
 old:∀j,j<H0.next→H.get j=H0.get j
 new:∀j,Id v j→H0.next≤j
theorem c13_no{H0:Hp}{p f g:Nat}{lim:Int}{L:List Nd}{K:List (ByteArray×Int)}{sl:Value}(hst:StF H0 p lim L K sl f g){x:Value}{rs:List Int}(hx:RdO H0 1 x rs.length (zbR rs))(hl:rs.length≤2^40)
  (hno:rs.all (isT L)=false):RR At [.pointer (some ⟨p,0,none⟩),x] H0=some (.tuple #[.slice none 0 0,.int .i64 70],H0):=by
 have hr:=(zdH E0 rfl (.pointer (some ⟨p,0,none⟩)) x H0).trans (zdS _ _ _ _);refine hr.trans ?_;have h1:=zne hst hx hl rs.length 0 (by omega);rw[qd0,hno,if_neg (by decide)]at h1;rw[hx.len,show (0:Int)=((0:Nat):Int) from rfl,h1,zan,zeK,zfh]
theorem zk4{H0:Hp}{p f g:Nat}{lim:Int}{L:List Nd}{K:List (ByteArray×Int)}{sl:Value}(hst:StF H0 p lim L K sl f g)(hd:Dag L)(hL:L.length*64≤2^46){x:Value}{ns:List Nat}(hx:RdO H0 1 x ns.length (ints ns))(hl:ns.length≤2^40)
  (hns:∀t∈ns,1≤t∧t≤L.length):∃H' v,RR At [.pointer (some ⟨p,0,none⟩),x] H0=some (.tuple #[v,.int .i64 0],H')∧OrdOk H0 H' v (posts L ns []):=by
 have hr:=(zdH E0 rfl (.pointer (some ⟨p,0,none⟩)) x H0).trans (zdS _ _ _ _);have hmap:(ns.map fun (t:Nat)=>(t:Int)).length=ns.length:=length_map ..;have h1:=zne (rs:=ns.map fun (t:Nat)=>(t:Int)) hst (x:=x) (by rw[hmap,←zbw];exact hx) (by rw[hmap];exact hl) ns.length 0 (by rw[hmap];omega);have hall:(ns.map fun (t:Nat)=>(t:Int)).all (isT L)=true:=by rw[all_map,all_eq_true];intro t ht;have:=hns t ht;exact zaV.2 ⟨by show (1:Int)≤(t:Int);omega,by show (t:Int)≤L.length;omega⟩
 rw[qd0,hall,if_pos rfl,hmap]at h1;obtain⟨bv,b1,b2,b3⟩:=Vec.make H0 (sz:=1) (bytes:=1) (zs:=[.bool false]) rfl (n:=L.length+1) (by omega);rw[zj8]at b1 b2;generalize hH1:H0.new (.cells (zk6 (List.replicate (L.length+1) false)) true)=H1 at b1 b2;have n1:H1.next=H0.next+1:=by rw[←hH1];rfl
 have hsl:(List.replicate (L.length+1) false).length=L.length+1:=length_replicate ..;have ps:PS H0 H1 (.slice none 0 0) [] (.slice none 0 0) [] bv (List.replicate (L.length+1) false):=
  ⟨by omega,fun j hj=>by rw[←hH1,get_new,if_neg (by omega)],Vec.nil _ _,Vec.nil _ _,by rw[hsl];exact b2,fun j hj=>(by cases hj),fun j hj=>(by cases hj),fun j hj=>by have:=b3 j hj;omega,
   fun j a=>(by cases a),fun j a=>(by cases a),fun j a=>(by cases a)⟩
 have sn:Seen L.length (List.replicate (L.length+1) false) [] []:=⟨hsl,fun x hx=>by rw[List.getElem?_replicate,if_pos (by omega)];rfl⟩
 obtain⟨H',lv',sv',seen',g1,g2⟩:=znd hst hd hL bv hx hns hl ns.length 0 [] _ H1 _ _ (by omega) ps sn ⟨nodup_nil,fun x h=>by cases h⟩;rw[qd0]at g2;refine⟨H',lv',?_,⟨g2.l,g2.next,g2.old,g2.al⟩⟩;refine hr.trans ?_;have w:IntKind.i64.wrap ((L.length:Int)+1)=((L.length+1:Nat):Int):=zaz (by omega) (by omega);rw[hx.len,show (0:Int)=((0:Nat):Int) from rfl,h1,zan,za6,zaC,zbA,zaK,Nat.zero_add,hst.st.l1,hst.st.all.len,zaU,w,b1,hx.len,g1,zan,za6,zaC];rfl
end Go.AM
namespace Go.AM
open Go
section
variable {H0:Hp}{p f g:Nat}{lim:Int}{L:List Nd}{K:List (ByteArray×Int)}{sl:Value}(hst:StF H0 p lim L K sl f g)(hd:Dag L)(hL:L.length*64≤2^46)(bv:Value)
theorem Own.st{H:Hp}{r:List Sl}(h:Own H0 H r)(hst:StF H0 p lim L K sl f g):StF H p lim L K sl f g:=
 hst.keep (fun i hi=>h.old i (hst.foot_lt hi)) h.next
end
section
end
section
end
end Go.AM
namespace Go.AM
open List Go
def zdJ(L:List Nd)(rs:List Int):Int×List Nat:=if rs.all (isT L)=true then (0,posts L (rs.map Int.toNat) []) else (70,[])
theorem zgL(ns:List Nat):(ns.map fun (t:Nat)=>(t:Int)).map Int.toNat=ns:=by
 induction ns with
 |nil=>rfl
 |cons a l ih=>rw[map_cons,map_cons,ih];rfl
theorem zlR{L:List Nd}(hd:Dag L)(rs:List Int):(zdJ L rs).2.length≤L.length:=by
 unfold zdJ;split
 ·rename_i h;obtain⟨ns,h1,h2⟩:=nats rs h;have e:rs.map Int.toNat=ns:=by rw[h1,zgL]
  rw[e];exact Told.len ((⟨nodup_nil,fun x h=>by cases h⟩:Told L.length []).posts hd h2)
 ·simp
section
variable {H0:Hp}{p f g:Nat}{lim:Int}{L:List Nd}{K:List (ByteArray×Int)}{sl:Value}(hst:StF H0 p lim L K sl f g)(hd:Dag L)(hL:L.length*64≤2^46){x:Value}{rs:List Int}(hx:RdO H0 1 x rs.length (zbR rs))(hl:rs.length≤2^40)
include hst hd hL hx hl
theorem c13:∃H' v,RR At [.pointer (some ⟨p,0,none⟩),x] H0=some (.tuple #[v,.int .i64 (zdJ L rs).1],H')∧OrdOk H0 H' v (zdJ L rs).2:=by
 unfold zdJ;cases h:rs.all (isT L) with
 |true=>
  obtain⟨ns,h1,h2⟩:=nats rs h;have e:rs.map Int.toNat=ns:=by rw[h1,zgL]
  have hlen:rs.length=ns.length:=by rw[h1,length_map]
  rw[if_pos rfl,e];exact zk4 hst hd hL (by rw[zbw,←h1,←hlen];exact hx) (by omega) h2
 |false=>
  rw[if_neg (by decide)];exact⟨H0,_,c13_no hst hx hl h,Vec.nil _ _,Nat.le_refl _,fun _ _=>rfl,fun j hj=>by cases hj⟩
end
end Go.AM
namespace Go.AM
open Go
def sp(l:List UInt8):List UInt8:=32::l
abbrev itoa:=Go.Lib.itoa
def fl(op:Int):List UInt8:=if op≤2 then [] else if op=3 then [119,110] else if op=4 then [115,119] else if op=31 then [112,110,119] else if op≥32 then [112,119] else List.replicate (zai op).toNat 112
def act(F:Int→Int)(n:Nd):List UInt8→Nat→List UInt8
 |[],_=>[]
 |c::r,k=>if c=112 then sp (itoa (F ([n.a,n.b,n.c].getD k 0)))++act F n r (k+1) else if c=110 then sp (numT n.num.toNat)++act F n r k else if c=119 then sp (itoa n.w)++act F n r k
  else if c=115 then sp n.name.data.toList++act F n r k else act F n r k
def word(ws:List (List UInt8))(op:Int):List UInt8:=ws.getD op.toNat []
def line(ws:List (List UInt8))(F:Int→Int)(i:Nat)(n:Nd):List UInt8:=itoa ((i+1:Nat):Int)++[32]++word ws n.op++act F n (fl n.op) 0++[10]
def zao(L:List Nd)(t:Nat):Nd:=(L[t-1]?).getD noNd'
 where noNd':Nd:=⟨0,0,0,0,0,0,⟨#[]⟩⟩
end Go.AM
namespace Go.AM
open List Go
def mapI(A:List (Int×Int)):List (Value×Value):=A.map fun x=>(.int .i64 x.1,.int .i64 x.2)
def lkI(t:Int):Nat→List (Int×Int)→Option (Nat×Int)
 |_,[]=>none
 |i,(u,w)::r=>if t=u then some (i,w) else lkI t (i+1) r
def MapF(H:Hp)(m:Nat)(F:Int→Int):Prop:=∃A,H.get m=some (.map (mapI A))∧∀t,F t=(match lkI t 0 A with|some q=>q.2|none=>0)
structure zi5(P:Program)(kt:TypeId):Prop where
 eq:∀a b:Int,eqT P 10000 kt (.int .i64 a) (.int .i64 b)=some (a==b)
 sh:∀a:Int,zdW P 20 kt (.int .i64 a)=true
theorem findI{P:Program}{kt:TypeId}(hk:zi5 P kt)(t:Int):∀(A:List (Int×Int)) (i:Nat),zet P kt (.int .i64 t) (mapI A) i=some ((lkI t i A).map fun q=>(q.1,.int .i64 q.2))
 |[],i=>rfl
 |(u,w)::r,i=>by
  show (match eqT P 10000 kt (.int .i64 t) (.int .i64 u) with|some true=>some (some (i,Value.int .i64 w))|some false=>zet P kt (.int .i64 t) (mapI r) (i+1)|none=>none)=_;rw[hk.eq];unfold lkI;by_cases h:t=u
  ·rw[if_pos h,show (t==u)=true by simpa using h];rfl
  ·rw[if_neg h,show (t==u)=false by simpa using h];exact findI hk t r (i+1)
theorem MapF.look{P:Program}{kt:TypeId}(hk:zi5 P kt){H:Hp}{m:Nat}{F:Int→Int}(h:MapF H m F)(t:Int){α:Type}(k:Value→Option α):za7 P kt (.int .i64 0) (.map (some m)) (.int .i64 t) false H k=k (.int .i64 (F t)):=by obtain⟨A,h1,h2⟩:=h;unfold za7 lookV;rw[hk.sh,h2 t];simp only[if_true,znc,h1,findI hk];cases lkI t 0 A<;>rfl
theorem zkP(t:Int):∀(A:List (Int×Int)) (i j:Nat) (w:Int),lkI t i A=some (j,w)→i≤j∧A[j-i]?=some (t,w)
 |[],i,j,w,h=>by cases h
 |(u,v)::r,i,j,w,h=>by
  unfold lkI at h;split at h
  ·rename_i e;cases h;subst e;exact⟨Nat.le_refl _,by simp⟩
  ·obtain⟨h1,h2⟩:=zkP t r (i+1) j w h;refine⟨by omega,?_⟩;rw[show j-i=(j-(i+1))+1 by omega];simpa using h2
theorem znh(t key v:Int):∀(A:List (Int×Int)) (i:Nat),lkI key i A=none→(lkI t i (A++[(key,v)])).map Prod.snd=if t=key then some v else (lkI t i A).map Prod.snd
 |[],i,h=>by
  show (lkI t i [(key,v)]).map Prod.snd=_;unfold lkI lkI;split<;>rfl
 |(u,w)::r,i,h=>by
  unfold lkI at h;split at h
  ·cases h
  ·rename_i ne;show (lkI t i ((u,w)::(r++[(key,v)]))).map Prod.snd=_;unfold lkI;by_cases e:t=u
   ·rw[if_pos e,if_pos e,if_neg (fun q=>ne (by rw[←q,e]))]
   ·rw[if_neg e,if_neg e];exact znh t key v r (i+1) h
theorem zng(t key v:Int):∀(A:List (Int×Int)) (i j:Nat) (w:Int),lkI key i A=some (j,w)→(lkI t i (A.set (j-i) (key,v))).map Prod.snd=if t=key then some v else (lkI t i A).map Prod.snd
 |[],i,j,w,h=>by cases h
 |(u,x)::r,i,j,w,h=>by
  unfold lkI at h;split at h
  ·rename_i e;cases h;subst e;rw[Nat.sub_self,set_cons_zero];unfold lkI;by_cases q:t=key
   ·rw[if_pos q,if_pos q];rfl
   ·rw[if_neg q,if_neg q,if_neg q]
  ·rename_i ne;have hle:=(zkP key r (i+1) j w h).1;rw[show j-i=(j-(i+1))+1 by omega,set_cons_succ];unfold lkI;by_cases q:t=u
   ·rw[if_pos q,if_pos q,if_neg (fun z=>ne (by rw[←z,q]))]
   ·rw[if_neg q,if_neg q];exact zng t key v r (i+1) j w h
theorem mtch(o:Option (Nat×Int)):(match o with|some q=>q.2|none=>(0:Int))=(o.map Prod.snd).getD 0:=by cases o<;>rfl
theorem MapF.upd{P:Program}{kt:TypeId}(hk:zi5 P kt){H:Hp}{m:Nat}{F:Int→Int}(h:MapF H m F)(key v:Int) :
  ∃H',(∀(α:Type) (k:Hp→Option α),pUpd P kt (.map (some m)) (.int .i64 key) (.int .i64 v) H k=k H')∧MapF H' m (fun t=>if t=key then v else F t)∧(∀j,j≠m→H'.get j=H.get j)∧H'.next=H.next:=by
 obtain⟨A,h1,h2⟩:=h;cases hq:lkI key 0 A with
 |none=>
  refine⟨H.set m (some (.map (mapI (A++[(key,v)])))),fun α k=>?_,⟨A++[(key,v)],by rw[get_set,if_pos rfl],fun t=>?_⟩,fun j hj=>by rw[get_set,if_neg hj],rfl⟩
  ·have:updV P kt (.map (some m)) (.int .i64 key) (.int .i64 v) H=some (H.set m (some (.map (mapI (A++[(key,v)]))))):=by unfold updV;rw[hk.sh];simp only[if_true,h1,findI hk,hq,Option.map_none];rw[show mapI (A++[(key,v)])=mapI A++[(Value.int .i64 key,Value.int .i64 v)] by simp[mapI]]
   unfold pUpd;rw[this]
  ·rw[mtch,znh t key v A 0 hq];dsimp only;split
   ·rfl
   ·rw[h2 t,mtch]
 |some q=>
  obtain⟨j,w⟩:=q;obtain⟨_,hg⟩:=zkP key A 0 j w hq;rw[Nat.sub_zero]at hg;refine⟨H.set m (some (.map (mapI (A.set j (key,v))))),fun α k=>?_,⟨A.set j (key,v),by rw[get_set,if_pos rfl],fun t=>?_⟩,fun j hj=>by rw[get_set,if_neg hj],rfl⟩
  ·have hk1:(mapI A)[j]?=some (.int .i64 key,.int .i64 w):=by unfold mapI;rw[List.getElem?_map,hg];rfl
   have hsb:Instr.sameBits 10000 (.int .i64 key) (.int .i64 key)=true:=by simp[Instr.sameBits]
   have:updV P kt (.map (some m)) (.int .i64 key) (.int .i64 v) H=some (H.set m (some (.map (mapI (A.set j (key,v)))))):=by unfold updV;rw[hk.sh];simp only[if_true,h1,findI hk,hq,Option.map_some,hk1,hsb];rw[show mapI (A.set j (key,v))=zhj (mapI A) j (.int .i64 key) (.int .i64 v) by unfold zhj mapI;rw[map_set]]
   unfold pUpd;rw[this]
  ·have:=zng t key v A 0 j w hq;rw[Nat.sub_zero]at this;rw[mtch,this];dsimp only;split
   ·rfl
   ·rw[h2 t,mtch]
theorem MapF.new(H:Hp):MapF (H.new (.map [])) H.next (fun _=>0):=⟨[],by rw[get_new,if_pos rfl];rfl,fun t=>rfl⟩
theorem MapF.keep{H H':Hp}{m:Nat}{F:Int→Int}(h:MapF H m F)(hg:H'.get m=H.get m):MapF H' m F:=by obtain⟨A,h1,h2⟩:=h;exact⟨A,by rw[hg];exact h1,h2⟩
end Go.AM
namespace Go.AM
open Go
section
end
def zjG:ByteArray:=⟨#[45,32,116,114,117,101,32,102,97,108,115,101,32,99,111,110,115,116,32,118,97,114,32,110,111,116,32,97,110,100,32,111,114,32,120,111,114,32,101,113,32,117,108,116,32,117,108,101,32,115,108,116,32,115,108,101,32,105,116,101,32,99,111,109,32,110,101,103,32,98,97,110,100,32,98,111,114,32,98,120,111,114,32,97,100,100,32,115,117,98,32,109,117,108,32,100,105,118,32,114,101,109,32,115,104,108,32,115,104,114,32,115,97,114,32,114,111,108,32,114,111,114,32,99,97,116,32,115,108,105,99,101,32,122,101,120,116,32,115,101,120,116]⟩
def zhL:List (List UInt8):=[[45],[116,114,117,101],[102,97,108,115,101],[99,111,110,115,116],[118,97,114],[110,111,116],[97,110,100],[111,114],[120,111,114],[101,113],[117,108,116],[117,108,101],[115,108,116],[115,108,101],[105,116,101],[99,111,109],[110,101,103],[98,97,110,100],[98,111,114],[98,120,111,114],[97,100,100],[115,117,98],[109,117,108],[100,105,118],[114,101,109],[115,104,108],[115,104,114],[115,97,114],[114,111,108],[114,111,114],[99,97,116],[115,108,105,99,101],[122,101,120,116],[115,101,120,116]]
theorem names_eq:Go.Lib.fields zjG.data.toList=zhL:=by kernel_rfl
theorem names_ok:zjG.size<4294967281∧zjG.data.toList.all (fun b=>decide (b.toNat<128))=true:=by constructor<;>decide +kernel
def zhi:List Value:=zhL.map fun l=>Value.string (ba l)
theorem c_names{H:Hp}(hT:Tabs H):RR BN [] H=some (.slice (some ⟨H.next,0,some 1⟩) 34 34,H.new (.cells zhi true)):=by
 obtain⟨cs,e,fz,hg,ht⟩:=hT.spc;have hx:RR Bj [.string zjG] H=some (.slice (some ⟨H.next,0,some 1⟩) 34 34,H.new (.cells zhi true)):=by refine(run_ext (O:=orc) Go.Proofs.Tryz.func99 (by kernel_rfl) (by kernel_rfl) (show E0 Bj=some ziK from rfl) _ H).trans ?_;show ziK [.string zjG] H=_;unfold ziK;dsimp only;rw[if_pos names_ok,hg];dsimp only;rw[ht,names_eq];rfl
 refine(zly E0 rfl _).trans ?_;have:zg5 RR H=zae RR Bj [.string zjG] H fun r1 H2=>some (r1,H2):=rfl;rw[this,zag hx]
section
end
end Go.AM
namespace Go.AM
open List Go
def zjB(w:List UInt8):List (List UInt8)→Nat→Option Nat
 |[],_=>none
 |x::r,i=>if 0<i∧x=w then some i else zjB w r (i+1)
def opF(w:List UInt8):Option Nat:=zjB w zhL 0
theorem zlT(w:List UInt8):∀(l:List (List UInt8)) (i j:Nat),zjB w l i=some j→1≤j∧j<i+l.length
 |[],i,j,h=>by cases h
 |x::r,i,j,h=>by
  unfold zjB at h;split at h
  ·rename_i hc;cases h;simp only[length_cons];omega
  ·have:=zlT w r (i+1) j h;simp only[length_cons];omega
theorem opF_bd{w:List UInt8}{j:Nat}(h:opF w=some j):1≤j∧j≤33:=by have:=zlT w zhL 0 j h;have hl:zhL.length=34:=rfl;omega
theorem zm3(w:List UInt8)(H:Hp)(wv:Value)(hv:Rdb H 1 wv 34 zhi)(z:Value):∀(rest:List (List UInt8)) (i:Nat),zhL.drop i=rest→i≤34 →
  zau (zaJ RR (str w) (.int .i64 34) wv) [z,.int .i64 (i:Int)] H=match zjB w rest i with
   |some j=>some (.ret,[W1 (.int .i64 (j:Int))],H)
   |none=>some (.exit 0,[z,.int .i64 34],H)
 |[],i,hr,hi=>by
  have hl:zhL.length=34:=rfl;have hil:i=34:=by have:=congrArg List.length hr;rw[length_drop,hl]at this;simp at this;omega
  have this:zaJ RR (str w) (.int .i64 34) wv [z,.int .i64 (i:Int)] H=some (.exit 0,[z,.int .i64 (i:Int)],H):=by
   unfold zaJ;have h1:¬((i:Int)<34):=by omega
   simp only[qg0,qg1,zbh,zad,s_br,h1,decide_false,Bool.false_eq_true,if_false]
  rw[zah,this,hil];rfl
 |x::r,i,hr,hi=>by
  have hl:zhL.length=34:=rfl;have hlt:i<34:=by have:=congrArg List.length hr;rw[length_drop,hl]at this;simp at this;omega
  have hget:zhL[i]?=some x:=by have:=congrArg (fun x=>x[0]?) hr;simpa using this
  have hr2:zhL.drop (i+1)=r:=by rw[←drop_drop,hr];rfl
  obtain⟨y,hy,⟨rest',own,hg⟩,hix⟩:=hv.ix hlt
  have hld:=fun (α:Type) (k:Value→Option α)=>zbi hg (i*1) (str x) (by
   rw[Nat.mul_one,List.getElem?_append_left (by unfold zhi;rw[length_map];omega)];unfold zhi
   rw[List.getElem?_map,hget];rfl) k
  have hinc:IntKind.i64.wrap ((i:Int)+1)=((i+1:Nat):Int):=w64 (by omega) (by omega);have h1:((i:Int)<34):=by omega
  unfold zjB;by_cases h0:0<i
  ·have h0':((i:Int)>0):=by omega
   by_cases hx:x=w
   ·rw[if_pos ⟨h0,hx⟩];have hx':(x==w)=true:=by rw[beq_iff_eq];exact hx
    have this:zaJ RR (str w) (.int .i64 34) wv [z,.int .i64 (i:Int)] H=some (.ret,[W1 (.int .i64 (i:Int))],H):=by unfold zaJ;simp only[qg0,qg1,zbh,zad,s_br,h1,decide_true,if_true,hix,hld,zb8,h0',zfs,hx']
    rw[zah,this];rfl
   ·rw[if_neg (fun q=>hx q.2)];have hx':(x==w)=false:=by rw[beq_eq_false_iff_ne];exact hx
    have this:zaJ RR (str w) (.int .i64 34) wv [z,.int .i64 (i:Int)] H=some (.next,[z,.int .i64 ((i+1:Nat):Int)],H):=by unfold zaJ;simp only[qg0,qg1,zbh,zad,s_br,h1,decide_true,if_true,hix,hld,zb8,h0',zfs,hx',Bool.false_eq_true,if_false,zaU,hinc]
    rw[zah,this];exact zm3 w H wv hv z r (i+1) hr2 hlt
  ·rw[if_neg (fun q=>h0 q.1)];have h0':¬((i:Int)>0):=by omega
   have this:zaJ RR (str w) (.int .i64 34) wv [z,.int .i64 (i:Int)] H=some (.next,[z,.int .i64 ((i+1:Nat):Int)],H):=by unfold zaJ;simp only[qg0,qg1,zbh,zad,s_br,h1,decide_true,if_true,hix,hld,zb8,h0',decide_false,Bool.false_eq_true,if_false,zaU,hinc]
   rw[zah,this];exact zm3 w H wv hv z r (i+1) hr2 hlt
theorem znw(w:List UInt8)(H:Hp)(hL:Laid H):∃H',Frm (fun _=>False) H H'∧RR Bp [str w] H=match opF w with
  |some j=>some (W1 (.int .i64 (j:Int)),H')
  |none=>some (W0 (zcd 3),H'):=by
 have hrun:=zhk E0 rfl (str w) H;rw[zhn,zag (c_names hL.tabs)]at hrun;have hv:Rdb (H.new (.cells zhi true)) 1 (.slice (some ⟨H.next,0,some 1⟩) 34 34) 34 zhi:=
  .inr ⟨H.next,34,[],true,rfl,Nat.le_refl _,by rw[append_nil];exact if_pos rfl,rfl,by show H.next<H.next+1;omega⟩
 have hloop:=zm3 w _ _ hv (.int .i64 0) zhL 0 rfl (Nat.zero_le _);have hlen:∀{α:Type} (k:Value→Option α),pLen .sl (.slice (some ⟨H.next,0,some 1⟩) 34 34) (H.new (.cells zhi true)) k=k (.int .i64 34):=fun k=>rfl;rw[hlen]at hrun;refine⟨H.new (.cells zhi true),zcz _ _ _,hrun.trans ?_⟩;have hloop:zau (zaJ RR (str w) (.int .i64 34) (.slice (some ⟨H.next,0,some 1⟩) 34 34)) [.int .i64 0,.int .i64 0] (H.new (.cells zhi true))=match opF w with
   |some j=>some (.ret,[W1 (.int .i64 (j:Int))],H.new (.cells zhi true))
   |none=>some (.exit 0,[.int .i64 0,.int .i64 34],H.new (.cells zhi true)):=hloop
 rw[hloop];cases opF w with
 |some j=>rfl
 |none=>
  dsimp only;rw[zan,za6,zaC,zb9]
inductive Fld where
 |p|n|w|s
 deriving DecidableEq
def setP(k:Nat)(n:Nd)(t:Int):Nd:=if k=0 then { n with a:=t } else if k=1 then { n with b:=t } else { n with c:=t }
def setF(f:Fld)(w:List UInt8)(ts:List Int)(k:Nat)(n:Nd):Option Nd:=
 match f with
 |.p=>if 1≤zcc w∧zcc w≤ts.length then some (setP k n (ts.getD (zcc w-1).toNat 0)) else none
 |.n=>match numP w with
  |none=>none
  |some x=>if n.op=3∨0≤zcc w then some { n with num:=(x:Int) } else none
 |.w=>if zcc w<0 then none else some { n with w:=zcc w }
 |.s=>some { n with name:=ba w }
def rdF:List Fld→List (List UInt8)→List Int→Nat→Nd→Option (Nd×List (List UInt8))
 |[],ws,_,_,n=>some (n,ws)
 |_::_,[],_,_,_=>none
 |f::fs,w::ws,ts,k,n=>match setF f w ts k n with
  |none=>none
  |some m=>rdF fs ws ts (if f=.p then k+1 else k) m
theorem zem(f:Fld)(fs:List Fld)(w:List UInt8)(ws:List (List UInt8))(ts:List Int)(k:Nat)(n:Nd):rdF (f::fs) (w::ws) ts k n=match setF f w ts k n with
  |none=>none
  |some m=>rdF fs ws ts (if f=.p then k+1 else k) m:=by
 conv=>lhs;unfold rdF
theorem rdF_app(fs gs:List Fld):∀(ws:List (List UInt8)) (ts:List Int) (k:Nat) (n:Nd),rdF (fs++gs) ws ts k n=match rdF fs ws ts k n with
  |none=>none
  |some (m,ws')=>rdF gs ws' ts (k+fs.count .p) m:=by
 induction fs with
 |nil=>intro ws ts k n;rfl
 |cons f fs ih=>
  intro ws ts k n;cases ws with
  |nil=>rfl
  |cons w ws=>
   rw[cons_append,zem,zem];cases setF f w ts k n with
   |none=>rfl
   |some m=>
    dsimp only;rw[ih];cases rdF fs ws ts (if f=.p then k+1 else k) m with
    |none=>rfl
    |some q=>
     dsimp only;rw[count_cons];by_cases hf:f=.p
     ·subst hf;rw[if_pos rfl,if_pos (by rfl)];have:k+1+fs.count Fld.p=k+(fs.count Fld.p+1):=by omega
      rw[this]
     ·rw[if_neg hf];have:(f==Fld.p)=false:=by rw[beq_eq_false_iff_ne];exact hf
      rw[this];simp
theorem rd_w(fs:List Fld)(ws:List (List UInt8))(ts:List Int)(k:Nat)(n:Nd):rdF (.w::fs) ws ts k n=match numF ws with
  |none=>none
  |some v=>rdF fs ws.tail ts k { n with w:=v }:=by
 cases ws with
 |nil=>rfl
 |cons w ws=>
  rw[zem];unfold numF setF;dsimp only;by_cases h:zcc w<0
  ·rw[if_pos h,if_pos h]
  ·rw[if_neg h,if_neg h];rfl
theorem rd_p(fs:List Fld)(ws:List (List UInt8))(ts:List Int)(k:Nat)(n:Nd):rdF (.p::fs) ws ts k n=match zkG ts ws with
  |none=>none
  |some t=>rdF fs ws.tail ts (k+1) (setP k n t):=by
 cases ws with
 |nil=>rfl
 |cons w ws=>
  rw[zem];unfold zkG numF setF;dsimp only;by_cases h:zcc w<0
  ·rw[if_pos h,if_neg (by omega)]
  ·rw[if_neg h];dsimp only;by_cases h2:1≤zcc w∧zcc w≤ts.length
   ·rw[if_pos h2,if_pos h2];rfl
   ·rw[if_neg h2,if_neg h2]
theorem rd_s(fs:List Fld)(ws:List (List UInt8))(ts:List Int)(k:Nat)(n:Nd):rdF (.s::fs) ws ts k n=match ws with
  |[]=>none
  |w::r=>rdF fs r ts k { n with name:=ba w }:=by
 cases ws with
 |nil=>rfl
 |cons w ws=>rfl
theorem rd_n3(fs:List Fld)(ws:List (List UInt8))(ts:List Int)(k:Nat)(n:Nd)(h:n.op=3):rdF (.n::fs) ws ts k n=match ws with
  |[]=>none
  |w::r=>match numP w with
   |none=>none
   |some x=>rdF fs r ts k { n with num:=(x:Int) }:=by
 cases ws with
 |nil=>rfl
 |cons w ws=>
  rw[zem];unfold setF;dsimp only;cases numP w with
  |none=>rfl
  |some x=>dsimp only;rw[if_pos (.inl h)];rfl
theorem rd_n(fs:List Fld)(ws:List (List UInt8))(ts:List Int)(k:Nat)(n:Nd)(h:n.op≠3):rdF (.n::fs) ws ts k n=match numF ws with
  |none=>none
  |some v=>rdF fs ws.tail ts k { n with num:=v }:=by
 cases ws with
 |nil=>rfl
 |cons w ws=>
  rw[zem];unfold numF setF;dsimp only;cases hn:numP w with
  |none=>
   have:zcc w=-1:=by rw[zd4,hn]
   rw[this,if_pos (show (-1:Int)<0 by decide)]
  |some x=>
   dsimp only;by_cases h2:zcc w<0
   ·rw[if_pos h2,if_neg (by intro q;rcases q with q|q;exact h q;omega)]
   ·rw[if_neg h2,if_pos (.inr (by omega))];have:zcc w=(x:Int):=by
     rw[zd4,hn]at h2 ⊢;dsimp only at h2 ⊢;split
     ·rfl
     ·rename_i q;rw[if_neg q]at h2;exact absurd (by decide) h2
    rw[this];rfl
structure NS(H:Hp)(p i:Nat)(sp wv tv:Value)(ws:List (List UInt8))(n:Nd):Prop where
 rs:RdS H p sp wv tv ws
 wi:¬Id wv i
 pi:p≠i
 nd:H.get i=some (.cells n.cells true)
 il:i<H.next
def NSA(H:Hp)(p i:Nat)(sp wv tv:Value)(ws:List (List UInt8))(n:Nd)(f:FuncId)(r:Option Int):Prop:=
 match r with
 |none=>∃H',RR f [.pointer (some ⟨p,0,none⟩)] H=some (W0 (zcd 3),H')∧Frm (· = p) H H'
 |some v=>∃H' wv',RR f [.pointer (some ⟨p,0,none⟩)] H=some (W1 (.int .i64 v),H')∧NS H' p i sp wv' tv ws.tail n∧(∀j,Id wv' j→Id wv j)∧Frm (· = p) H H'
section
variable {H:Hp}{p i:Nat}{sp wv tv:Value}{ws:List (List UInt8)}{n:Nd}
theorem NS.of(h:NS H p i sp wv tv ws n){f:FuncId}{r:Option Int}(k:RdA H p sp wv tv ws f r):NSA H p i sp wv tv ws n f r:=by
 cases r with
 |none=>exact k
 |some v=>
  obtain⟨H',wv',h1,h2,h3,h4⟩:=k;exact⟨H',wv',h1,⟨h2,fun q=>h.wi (h3 i q),h.pi,by rw[h4.same i h.il (Ne.symm h.pi)];exact h.nd,Nat.lt_of_lt_of_le h.il h4.next⟩,h3,h4⟩
theorem NS.next{w:List UInt8}(h:NS H p i sp wv tv (w::ws) n) :
  ∃H' wv',RR Ap [.pointer (some ⟨p,0,none⟩)] H=some (W1 (str w),H')∧NS H' p i sp wv' tv ws n∧(∀j,Id wv' j→Id wv j)∧Frm (· = p) H H':=by
 obtain⟨H',wv',h1,h2,h3,h4⟩:=h.rs.next;exact⟨H',wv',h1,⟨h2,fun q=>h.wi (h3 i q),h.pi,by rw[h4.same i h.il (Ne.symm h.pi)];exact h.nd,Nat.lt_of_lt_of_le h.il h4.next⟩,h3,h4⟩
theorem NS.keep{H':Hp}(h:NS H p i sp wv tv ws n)(k:Frm (fun _=>False) H H'):NS H' p i sp wv tv ws n:=
 ⟨h.rs.keep k (fun q=>q) fun _ _ q=>q,h.wi,h.pi,by rw[k.same i h.il fun q=>q];exact h.nd,Nat.lt_of_lt_of_le h.il k.next⟩
theorem NS.st(h:NS H p i sp wv tv ws n){o:Nat}{v:Value}{m:Nd}(hc:zab v=[v])(h1:one v=true)(ho:o<7)(hs:spl n.cells o [v]=m.cells) :
  ∃H',(∀(α:Type) (k:Hp→Option α),zas 1 H (.pointer (some ⟨i,o,none⟩)) v k=k H')∧NS H' p i sp wv tv ws m∧Frm (· = i) H H':=by
 have hf:Frm (· = i) H (H.set i (some (.cells m.cells true))):=zfm _ _ _ _ rfl;refine⟨H.set i (some (.cells m.cells true)),fun α k=>?_,⟨h.rs.keep hf h.pi fun j hj q=>h.wi (by rw[q]at hj;exact hj),h.wi,h.pi,by rw[get_set,if_pos rfl],h.il⟩,hf⟩;have hw:zbm 1 n.cells o v=some m.cells:=by unfold zbm;rw[hc,if_pos ⟨rfl,by show o+1≤7;omega,by simp[h1]⟩,hs]
 have:H.wr (.pointer (some ⟨i,o,none⟩)) 1 v=some (H.set i (some (.cells m.cells true))):=by show (match H.get i with|some (.cells cs true)=>(match zbm 1 cs o v with|some cs'=>some (H.set i (some (.cells cs' true)))|none=>none)|_=>none)=_;rw[h.nd];dsimp only;rw[hw]
 unfold zas;rw[this]
theorem NS.ld(h:NS H p i sp wv tv ws n)(o:Nat)(v:Value)(hv:n.cells[o]?=some v){α:Type}(k:Value→Option α):zak 1 false H (.pointer (some ⟨i,o,none⟩)) k=k v:=zbi h.nd o v hv k
end
def PhA(H:Hp)(p i:Nat)(sp wv tv:Value)(out:Option (Nd×List (List UInt8)))(c:Ctl)(ok:List Value)(X:Option Outc):Prop:=
 match out with
 |none=>∃H',X=some (.ret,[W0 (zcd 3)],H')∧Frm (fun j=>j=p∨j=i) H H'
 |some (m,ws')=>∃H' wv',X=some (c,ok,H')∧NS H' p i sp wv' tv ws' m∧(∀j,Id wv' j→Id wv j)∧Frm (fun j=>j=p∨j=i) H H'
theorem PhA.from{H H1:Hp}{p i:Nat}{sp wv wv1 tv:Value}{out:Option (Nd×List (List UInt8))}{c:Ctl}{ok:List Value}{X:Option Outc}(h:PhA H1 p i sp wv1 tv out c ok X)(hf:Frm (fun j=>j=p∨j=i) H H1)(hi:∀j,Id wv1 j→Id wv j):PhA H p i sp wv tv out c ok X:=by
 cases out with
 |none=>obtain⟨H',h1,h2⟩:=h;exact⟨H',h1,hf.trans h2 fun j q=>.inl q⟩
 |some q=>
  obtain⟨m,ws'⟩:=q;obtain⟨H',wv',h1,h2,h3,h4⟩:=h;exact⟨H',wv',h1,h2,fun j q=>hi j (h3 j q),hf.trans h4 fun j q=>.inl q⟩
theorem fr_p{H H':Hp}{p i:Nat}(h:Frm (· = p) H H'):Frm (fun j=>j=p∨j=i) H H':=h.mono fun j q=>.inl (.inl q)
theorem fr_i{H H':Hp}{p i:Nat}(h:Frm (· = i) H H'):Frm (fun j=>j=p∨j=i) H H':=h.mono fun j q=>.inl (.inr q)
theorem fr_0{H H':Hp}{p i:Nat}(h:Frm (fun _=>False) H H'):Frm (fun j=>j=p∨j=i) H H':=h.mono fun j q=>q.elim
structure Away(p i:Nat):Prop where
 p:PP.globals.size≤p
 i:PP.globals.size≤i
theorem Away.laid{H H':Hp}{p i:Nat}(h:Away p i)(hL:Laid H)(k:Frm (fun j=>j=p∨j=i) H H'):Laid H':=hL.keep k fun j q=>by rcases q with rfl|rfl;exact h.p;exact h.i
noncomputable def ph1(x0 p10:Value)(H12:Hp):Option Outc:=
 zav 0 p10 fun p13=>
 zak 1 false H12 p13 fun v14=>
 pBin PP .eql Aa v14 (.int .i64 3) fun v15=>
 zaa v15 fun b16=>br b16
 (zbk RR An [x0] H12 (fun e17 H18=>
 some (.ret,[(W0 e17)],H18)) fun r19 H20=>
 zav 1 p10 fun p21=>
 zas 1 H20 p21 r19 fun H22=>
 zbk RR Ap [x0] H22 (fun e23 H24=>
 some (.ret,[(W0 e23)],H24)) fun r25 H26=>
 zae RR AL [r25] H26 fun r27 H28=>
 zac r27 0 fun v29=>
 zac r27 1 fun v30=>
 pBin PP .neq Ai v30 (.int .i64 0) fun v31=>
 zaa v31 fun b32=>br b32
 (zaE PP Ad [(0,(.int .i64 3))] fun v33=>
 some (.ret,[(W0 (.iface Ad v33))],H28))
 (zav 5 p10 fun p34=>
 zas 1 H28 p34 v29 fun H35=>
 some (.next,[],H35)))
 (pBin PP .eql Aa v14 (.int .i64 4) fun v36=>
 zaa v36 fun b37=>br b37
 (zbk RR Ap [x0] H12 (fun e38 H39=>
 some (.ret,[(W0 e38)],H39)) fun r40 H41=>
 zav 6 p10 fun p42=>
 zas 1 H41 p42 r40 fun H43=>
 zbk RR An [x0] H43 (fun e44 H45=>
 some (.ret,[(W0 e44)],H45)) fun r46 H47=>
 zav 1 p10 fun p48=>
 zas 1 H47 p48 r46 fun H49=>
 some (.next,[],H49))
 (some (.next,[],H12)))
def preF(op:Int):List Fld:=if op=3 then [.w,.n] else if op=4 then [.s,.w] else []
theorem ph1_ok{H:Hp}{p i:Nat}{sp wv tv:Value}{ws:List (List UInt8)}{n:Nd}(h:NS H p i sp wv tv ws n)(hA:Away p i)(hL:Laid H)(ts:List Int) :
  PhA H p i sp wv tv (rdF (preF n.op) ws ts 0 n) .next [] (ph1 (.pointer (some ⟨p,0,none⟩)) (.pointer (some ⟨i,0,none⟩)) H):=by
 have hop:∀{α:Type} (k:Value→Option α),zak 1 false H (.pointer (some ⟨i,0+0,none⟩)) k=k (.int .i64 n.op):=fun k=>h.ld 0 _ rfl k;unfold preF ph1;by_cases h3:n.op=3
 ·rw[if_pos h3,rd_w];have hn:=h.of (h.rs.number hL hA.p);have hop3:∀{α:Type} (k:Value→Option α),zak 1 false H (.pointer (some ⟨i,0+0,none⟩)) k=k (.int .i64 3):=fun k=>by rw[hop,h3]
  simp only[zaK,hop3,zaZ,zad,s_br,decide_true,if_true];cases hf:numF ws with
  |none=>
   rw[hf]at hn;obtain⟨H1,a1,a2⟩:=hn;rw[zbM a1];exact⟨H1,rfl,fr_p a2⟩
  |some v=>
   rw[hf]at hn;obtain⟨H1,wv1,a1,a2,a3,a4⟩:=hn;obtain⟨H2,b1,b2,b3⟩:=a2.st (o:=0+1) (v:=.int .i64 v) (m:={ n with w:=v }) rfl rfl (by decide) rfl;have hf2:Frm (fun j=>j=p∨j=i) H H2:=(fr_p a4).trans (fr_i b3) fun j q=>.inl q;rw[zbL a1,b1];dsimp only;rw[rd_n3 _ _ _ _ _ (show ({ n with w:=v }:Nd).op=3 from h3)];cases hw:ws.tail with
   |nil=>
    rw[hw]at b2;rw[zbM b2.rs.stop];exact⟨H2,rfl,hf2⟩
   |cons w r=>
    rw[hw]at b2;obtain⟨H3,wv3,c1,c2,c3,c4⟩:=b2.next;have hf3:Frm (fun j=>j=p∨j=i) H H3:=hf2.trans (fr_p c4) fun j q=>.inl q;obtain⟨H4,d1,d2⟩:=c_number w (b2.rs.sh w (mem_cons_self ..)) H3 (hA.laid hL hf3);have hf4:Frm (fun j=>j=p∨j=i) H H4:=hf3.trans (fr_0 d2) fun j q=>.inl q;rw[zbL c1,zag d1];dsimp only;cases hx:numP w with
    |none=>
     refine⟨H4,?_,hf4⟩;have e0:∀{α:Type} (k:Value→Option α),zac (numV none) 0 k=k (.int .u64 0):=fun k=>rfl;have e1:∀{α:Type} (k:Value→Option α),zac (numV none) 1 k=k (.int .i64 10):=fun k=>rfl;simp only[e0,e1,zba,zad,s_br,zb9,show ((10:Int)≠0) from by decide,decide_true,if_true,ne_eq,not_false_eq_true]
    |some x=>
     obtain⟨H5,e1,e2,e3⟩:=(c2.keep d2).st (o:=0+5) (v:=.int .u64 (x:Int)) (m:={ n with w:=v,num:=(x:Int) }) rfl rfl (by decide) rfl;refine⟨H5,wv3,?_,e2,fun j q=>a3 j (c3 j q),hf4.trans (fr_i e3) fun j q=>.inl q⟩;have z0:∀{α:Type} (k:Value→Option α),zac (numV (some x)) 0 k=k (.int .u64 (x:Int)):=fun k=>rfl;have z1:∀{α:Type} (k:Value→Option α),zac (numV (some x)) 1 k=k (.int .i64 0):=fun k=>rfl;have hz:¬((0:Int)≠0):=by decide
     simp only[z0,z1,zba,zad,s_br,hz,decide_false,Bool.false_eq_true,if_false,e1]
 ·rw[if_neg h3];by_cases h4:n.op=4
  ·rw[if_pos h4,rd_s];have hop4:∀{α:Type} (k:Value→Option α),zak 1 false H (.pointer (some ⟨i,0+0,none⟩)) k=k (.int .i64 4):=fun k=>by rw[hop,h4]
   simp only[zaK,hop4,zaZ,zad,s_br,decide_true,if_true,show ¬((4:Int)=3) from by decide,decide_false,Bool.false_eq_true,if_false];cases ws with
   |nil=>
    rw[zbM h.rs.stop];exact⟨H,rfl,Frm.refl _ _⟩
   |cons w r=>
    obtain⟨H1,wv1,a1,a2,a3,a4⟩:=h.next;obtain⟨H2,b1,b2,b3⟩:=a2.st (o:=0+6) (v:=str w) (m:={ n with name:=ba w }) rfl rfl (by decide) rfl;have hf2:Frm (fun j=>j=p∨j=i) H H2:=(fr_p a4).trans (fr_i b3) fun j q=>.inl q;rw[zbL a1,b1];dsimp only;rw[rd_w];have hn:=b2.of (b2.rs.number (hA.laid hL hf2) hA.p);cases hf:numF r with
    |none=>
     rw[hf]at hn;obtain⟨H3,c1,c2⟩:=hn;rw[zbM c1];exact⟨H3,rfl,hf2.trans (fr_p c2) fun j q=>.inl q⟩
    |some v=>
     rw[hf]at hn;obtain⟨H3,wv3,c1,c2,c3,c4⟩:=hn;obtain⟨H4,d1,d2,d3⟩:=c2.st (o:=0+1) (v:=.int .i64 v) (m:={ n with name:=ba w,w:=v }) rfl rfl (by decide) rfl;refine⟨H4,wv3,?_,d2,fun j q=>a3 j (c3 j q),(hf2.trans (fr_p c4) fun j q=>.inl q).trans (fr_i d3) fun j q=>.inl q⟩;rw[zbL c1,d1]
  ·rw[if_neg h4];simp only[zaK,hop,zaZ,zad,s_br,h3,h4,decide_false,Bool.false_eq_true,if_false];exact⟨H,wv,rfl,h,fun j q=>q,Frm.refl _ _⟩
noncomputable def ph3(x0 p10:Value)(H:Hp):Option Outc:=
 zav 0 p10 fun p77=>
 zak 1 false H p77 fun v78=>
 pBin PP .eql Aa v78 (.int .i64 31) fun v79=>
 zaa v79 fun b80=>br b80
 (zbk RR An [x0] H (fun e81 H82=>
 some (.ret,[(W0 e81)],H82)) fun r83 H84=>
 zaq .u64 r83 fun v85=>
 zav 5 p10 fun p86=>
 zas 1 H84 p86 v85 fun H87=>
 zbk RR An [x0] H87 (fun e88 H89=>
 some (.ret,[(W0 e88)],H89)) fun r90 H91=>
 zav 1 p10 fun p92=>
 zas 1 H91 p92 r90 fun H93=>
 some (.next,[],H93))
 (zaw (
 pBin PP .eql Aa v78 (.int .i64 32) fun v94=>
 zaa v94 fun b95=>br b95
 (some (.next,[(.bool true)],H))
 (pBin PP .eql Aa v78 (.int .i64 33) fun v96=>
 some (.next,[v96],H))) fun q97 l98 H99=>zaG q97
 (zaa (l98.getD 0 undef) fun b101=>br b101
 (zbk RR An [x0] H99 (fun e102 H103=>
 some (.ret,[(W0 e102)],H103)) fun r104 H105=>
 zav 1 p10 fun p106=>
 zas 1 H105 p106 r104 fun H107=>
 some (.next,[],H107))
 (pBin PP .eql Aa v78 (.int .i64 14) fun v108=>
 zaa v108 fun b109=>br b109
 (pNil x0 (
 zav 0 x0 fun p110=>
 zak 1 false H99 p110 fun v111=>
 zav 3 p10 fun p112=>
 zak 1 false H99 p112 fun v113=>
 zae RR Al [v111,v113] H99 fun r114 H115=>
 zav 1 p10 fun p116=>
 zas 1 H115 p116 r114 fun H117=>
 some (.next,[],H117)))
 (pBin PP .eql Aa v78 (.int .i64 30) fun v118=>
 zaa v118 fun b119=>br b119
 (pNil x0 (
 zav 0 x0 fun p120=>
 zak 1 false H99 p120 fun v121=>
 zav 2 p10 fun p122=>
 zak 1 false H99 p122 fun v123=>
 zae RR Al [v121,v123] H99 fun r124 H125=>
 pNil x0 (
 zav 0 x0 fun p126=>
 zak 1 false H125 p126 fun v127=>
 chk (Hp.rdP H99 p126 1 false=some v127) (
 zav 3 p10 fun p128=>
 zak 1 false H125 p128 fun v129=>
 chk (Hp.rdP H99 p128 1 false=some v129) (
 zae RR Al [v127,v129] H125 fun r130 H131=>
 pBin PP .add Aa r124 r130 fun v132=>
 pMM false [v132,(.int .i64 65)] fun v133=>
 zav 1 p10 fun p134=>
 zas 1 H131 p134 v133 fun H135=>
 zav 1 p10 fun p136=>
 zak 1 false H135 p136 fun v137=>
 pBin PP .gtr Aa v137 (.int .i64 64) fun v138=>
 zaa v138 fun b139=>br b139
 (zav 1 p10 fun p140=>
 zas 1 H135 p140 (.int .i64 0) fun H141=>
 some (.next,[],H141))
 (some (.next,[],H135)))))))
 (pBin PP .geq Aa v78 (.int .i64 15) fun v142=>
 zaa v142 fun b143=>br b143
 (pBin PP .leq Aa v78 (.int .i64 29) fun v144=>
 zaa v144 fun b145=>br b145
 (pNil x0 (
 zav 0 x0 fun p146=>
 zak 1 false H99 p146 fun v147=>
 zav 2 p10 fun p148=>
 zak 1 false H99 p148 fun v149=>
 zae RR Al [v147,v149] H99 fun r150 H151=>
 zav 1 p10 fun p152=>
 zas 1 H151 p152 r150 fun H153=>
 some (.next,[],H153)))
 (some (.next,[],H99)))
 (some (.next,[],H99))))))
 (fun i100=>zax i100 3 (
 some (.next,[],H99)) (
 some (.exit i100,[],H99)))
 (some (.ret,[(l98.headD undef)],H99)))
theorem setP_op(k:Nat)(n:Nd)(t:Int):(setP k n t).op=n.op:=by
 unfold setP;split
 ·rfl
 ·split<;>rfl
theorem bld3p(i:Nat):∀{α:Type} (k:Value→Option α),zaE PP A2 [(0,.pointer (some ⟨i,0+2,none⟩)),(1,.pointer (some ⟨i,0+3,none⟩)),(2,.pointer (some ⟨i,0+4,none⟩))] k=k (.agg #[.pointer (some ⟨i,2,none⟩),.pointer (some ⟨i,3,none⟩),.pointer (some ⟨i,4,none⟩)]):=fun {α} k=>by
 have:zgt PP A2 [(0,.pointer (some ⟨i,0+2,none⟩)),(1,.pointer (some ⟨i,0+3,none⟩)),(2,.pointer (some ⟨i,0+4,none⟩))]=some (.agg #[.pointer (some ⟨i,2,none⟩),.pointer (some ⟨i,3,none⟩),.pointer (some ⟨i,4,none⟩)]):=by kernel_rfl
 unfold zaE;rw[this]
theorem zoS(k:Nat)(hk:k<3)(n:Nd)(t:Int):spl n.cells (2+k) [.int .i64 t]=(setP k n t).cells:=by
 match k,hk with
 |0,_=>rfl
 |1,_=>rfl
 |2,_=>rfl
theorem partsT_le(op:Int):0≤zai op∧zai op≤3:=by
 unfold zai;split
 ·decide
 ·split
  ·decide
  ·split<;>decide
theorem zn2{p i:Nat}{sp tv:Value}(hA:Away p i)(ts:List Int)(P:Nat)(hP:P≤3)(htp:¬Id tv p)(hti:¬Id tv i):∀(d k:Nat) (H:Hp) (wv:Value) (ws:List (List UInt8)) (n:Nd),k+d=P→NS H p i sp wv tv ws n→Laid H→Vec H 1 tv ts.length (i64s ts) →
  PhA H p i sp wv tv (rdF (List.replicate d .p) ws ts k n) (.exit 1) [.int .i64 (P:Int)] (zau (zaM RR (.pointer (some ⟨p,0,none⟩)) (.int .i64 (P:Int)) (.pointer (some ⟨i,0,none⟩))) [.int .i64 (k:Int)] H)
 |0,k,H,wv,ws,n,hk,h,hL,ht=>by
  have:zaM RR (.pointer (some ⟨p,0,none⟩)) (.int .i64 (P:Int)) (.pointer (some ⟨i,0,none⟩)) [.int .i64 (k:Int)] H=some (.exit 1,[.int .i64 (k:Int)],H):=by
   unfold zaM;have h1:¬((k:Int)<(P:Int)):=by omega
   simp only[qg0,zbh,zad,s_br,h1,decide_false,Bool.false_eq_true,if_false]
  rw[zah,this];have hkp:k=P:=by omega
  subst hkp;exact⟨H,wv,rfl,h,fun j q=>q,Frm.refl _ _⟩
 |d+1,k,H,wv,ws,n,hk,h,hL,ht=>by
  rw[replicate_succ,rd_p];have h1:((k:Int)<(P:Int)):=by omega
  have hat:∀{α:Type} (kk:Value→Option α),zcj 3 false 1 (.agg #[.pointer (some ⟨i,2,none⟩),.pointer (some ⟨i,3,none⟩),.pointer (some ⟨i,4,none⟩)]) (.int .i64 (k:Int)) kk=kk (.pointer (some ⟨i,2+k,none⟩)):=fun kk=>by
   match k,(show k<3 by omega) with
   |0,_=>rfl
   |1,_=>rfl
   |2,_=>rfl
  have hn:=h.of (h.rs.part hL hA.p ht htp);cases hf:zkG ts ws with
  |none=>
   rw[hf]at hn;obtain⟨H1,a1,a2⟩:=hn;have:zaM RR (.pointer (some ⟨p,0,none⟩)) (.int .i64 (P:Int)) (.pointer (some ⟨i,0,none⟩)) [.int .i64 (k:Int)] H=some (.ret,[W0 (zcd 3)],H1):=by unfold zaM;simp only[qg0,zbh,zad,s_br,h1,decide_true,if_true,zaK,bld3p,hat];rw[zbM a1]
   rw[zah,this];exact⟨H1,rfl,fr_p a2⟩
  |some t=>
   rw[hf]at hn;obtain⟨H1,wv1,a1,a2,a3,a4⟩:=hn;obtain⟨H2,b1,b2,b3⟩:=a2.st (o:=2+k) (v:=.int .i64 t) (m:=setP k n t) rfl rfl (by omega) (zoS k (by omega) n t);have hf2:Frm (fun j=>j=p∨j=i) H H2:=(fr_p a4).trans (fr_i b3) fun j q=>.inl q;have hinc:IntKind.i64.wrap ((k:Int)+1)=((k+1:Nat):Int):=w64 (by omega) (by omega);have:zaM RR (.pointer (some ⟨p,0,none⟩)) (.int .i64 (P:Int)) (.pointer (some ⟨i,0,none⟩)) [.int .i64 (k:Int)] H=some (.next,[.int .i64 ((k+1:Nat):Int)],H2):=by unfold zaM;simp only[qg0,zbh,zad,s_br,h1,decide_true,if_true,zaK,bld3p,hat];rw[zbL a1,zbA,b1,zaU,hinc]
   rw[zah,this];dsimp only;refine PhA.from (zn2 hA ts P hP htp hti d (k+1) H2 wv1 ws.tail (setP k n t) (by omega) b2 (hA.laid hL hf2) (ht.keep hf2 fun j hj q=>?_)) hf2 a3;rcases q with rfl|rfl
   ·exact htp hj
   ·exact hti hj
def postF(op:Int):List Fld:=if op=31 then [.n,.w] else if op=32∨op=33 then [.w] else []
def zer(L:List Nd)(n:Nd):Int:=
 if n.op=14 then wT L (-1) n.b else if n.op=30 then (if wT L (-1) n.a+wT L (-1) n.b>64 then 0 else wT L (-1) n.a+wT L (-1) n.b)
 else if 15≤n.op∧n.op≤29 then wT L (-1) n.a else n.w
def impl(L:List Nd)(q:Nd×List (List UInt8)):Nd×List (List UInt8):=({ q.1 with w:=zer L q.1 },q.2)
theorem zlv{H:Hp}{i:Nat}{cs:List Value}{own:Bool}(h:H.get i=some (.cells cs own))(o:Nat)(v:Value)(hv:cs[o]?=some v):Hp.rdP H (.pointer (some ⟨i,o,none⟩)) 1 false=some v:=by simp[Hp.rdP,Hp.rd,h,zcf,hv]
theorem ph3_ok{H:Hp}{p i:Nat}{st f g:Nat}{lim:Int}{L:List Nd}{K:List (ByteArray×Int)}{sl:Value}{wv tv:Value}{ws:List (List UInt8)}{n:Nd}
  (h:NS H p i (.pointer (some ⟨st,0,none⟩)) wv tv ws n) (hA:Away p i) (hL:Laid H) (hS:StF H st lim L K sl f g) (hR:zjf L) (ts:List Int) :
  PhA H p i (.pointer (some ⟨st,0,none⟩)) wv tv ((rdF (postF n.op) ws ts (zai n.op).toNat n).map (impl L)) .next [] (ph3 (.pointer (some ⟨p,0,none⟩)) (.pointer (some ⟨i,0,none⟩)) H):=by
 have hop:∀{α:Type} (k:Value→Option α),zak 1 false H (.pointer (some ⟨i,0+0,none⟩)) k=k (.int .i64 n.op):=fun k=>h.ld 0 _ rfl k;have hna:∀{α:Type} (k:Value→Option α),zak 1 false H (.pointer (some ⟨i,0+2,none⟩)) k=k (.int .i64 n.a):=fun k=>h.ld 2 _ rfl k;have hnb:∀{α:Type} (k:Value→Option α),zak 1 false H (.pointer (some ⟨i,0+3,none⟩)) k=k (.int .i64 n.b):=fun k=>h.ld 3 _ rfl k;have hsp:∀{α:Type} (k:Value→Option α),zak 1 false H (.pointer (some ⟨p,0+0,none⟩)) k=k (.pointer (some ⟨st,0,none⟩)):=fun k=>zbi h.rs.rd 0 _ rfl k;have rsp:Hp.rdP H (.pointer (some ⟨p,0+0,none⟩)) 1 false=some (.pointer (some ⟨st,0,none⟩)):=zlv h.rs.rd 0 _ rfl;have rnb:Hp.rdP H (.pointer (some ⟨i,0+3,none⟩)) 1 false=some (.int .i64 n.b):=zlv h.nd 3 _ rfl;have ba:=wT_bd hR.w n.a;have bb:=wT_bd hR.w n.b;unfold postF ph3;by_cases h31:n.op=31
 ·rw[if_pos h31];have hop':∀{α:Type} (k:Value→Option α),zak 1 false H (.pointer (some ⟨i,0+0,none⟩)) k=k (.int .i64 31):=fun k=>by rw[hop,h31]
  simp only[zaK,hop',zaZ,zad,s_br,decide_true,if_true];rw[rd_n _ _ _ _ _ (by omega)];have hn:=h.of (h.rs.number hL hA.p);cases hf:numF ws with
  |none=>
   rw[hf]at hn;obtain⟨H1,a1,a2⟩:=hn;rw[zbM a1];exact⟨H1,rfl,fr_p a2⟩
  |some v=>
   rw[hf]at hn;obtain⟨H1,wv1,a1,a2,a3,a4⟩:=hn;have hb:=numF_bd hf;obtain⟨H2,b1,b2,b3⟩:=a2.st (o:=0+5) (v:=.int .u64 v) (m:={ n with num:=v }) rfl rfl (by decide) rfl;have hf2:Frm (fun j=>j=p∨j=i) H H2:=(fr_p a4).trans (fr_i b3) fun j q=>.inl q;have hcv:∀{α:Type} (k:Value→Option α),zaq .u64 (.int .i64 v) k=k (.int .u64 v):=fun k=>by show k (.int .u64 (IntKind.u64.wrap v))=_;rw[u64 (by omega) (by omega)]
   rw[zbL a1,hcv,b1];dsimp only;rw[rd_w];have hn2:=b2.of (b2.rs.number (hA.laid hL hf2) hA.p);cases hf':numF ws.tail with
   |none=>
    rw[hf']at hn2;obtain⟨H3,c1,c2⟩:=hn2;rw[zbM c1];exact⟨H3,rfl,hf2.trans (fr_p c2) fun j q=>.inl q⟩
   |some u=>
    rw[hf']at hn2;obtain⟨H3,wv3,c1,c2,c3,c4⟩:=hn2;obtain⟨H4,d1,d2,d3⟩:=c2.st (o:=0+1) (v:=.int .i64 u) (m:={ n with num:=v,w:=u }) rfl rfl (by decide) rfl;refine⟨H4,wv3,?_,?_,fun j q=>a3 j (c3 j q),(hf2.trans (fr_p c4) fun j q=>.inl q).trans (fr_i d3) fun j q=>.inl q⟩
    ·rw[zbL c1,d1]
    ·have e:zer L { n with num:=v,w:=u }=u:=by unfold zer;rw[if_neg (show ¬n.op=14 by omega),if_neg (show ¬n.op=30 by omega),if_neg (show ¬(15≤n.op∧n.op≤29) by omega)]
     show NS H4 p i _ wv3 tv ws.tail.tail { n with num:=v,w:=zer L { n with num:=v,w:=u } };rw[e];exact d2
 ·rw[if_neg h31];by_cases h32:n.op=32∨n.op=33
  ·rw[if_pos h32,rd_w];have hn:=h.of (h.rs.number hL hA.p);have hX:∀(X Y:Option Outc),(zaw (pBin PP .eql Aa (.int .i64 n.op) (.int .i64 32) fun v94=>zaa v94 fun b95=>br b95 (some (.next,[(.bool true)],H)) (pBin PP .eql Aa (.int .i64 n.op) (.int .i64 33) fun v96=>some (.next,[v96],H))):(Ctl→List Value→Hp→Option Outc)→Option Outc)=fun k=>k .next [.bool true] H:=fun X Y=>by
    funext k;rcases h32 with q|q
    ·simp only[zaZ,zad,s_br,q,decide_true,if_true,zan]
    ·simp only[zaZ,zad,s_br,q,decide_true,if_true,zan,show ¬((33:Int)=32) from by decide,decide_false,Bool.false_eq_true,if_false]
   have hX:=congrFun (hX none none);simp only[zaK,hop,zaZ,zad,s_br,h31,decide_false,Bool.false_eq_true,if_false]at hX ⊢;rw[hX,za3];simp only[qg0,zad,s_br,if_true];cases hf:numF ws with
   |none=>
    rw[hf]at hn;obtain⟨H1,a1,a2⟩:=hn;rw[zbM a1];exact⟨H1,rfl,fr_p a2⟩
   |some v=>
    rw[hf]at hn;obtain⟨H1,wv1,a1,a2,a3,a4⟩:=hn;obtain⟨H2,b1,b2,b3⟩:=a2.st (o:=0+1) (v:=.int .i64 v) (m:={ n with w:=v }) rfl rfl (by decide) rfl;refine⟨H2,wv1,?_,?_,a3,(fr_p a4).trans (fr_i b3) fun j q=>.inl q⟩
    ·rw[zbL a1,b1]
    ·have e:zer L { n with w:=v }=v:=by unfold zer;rw[if_neg (show ¬n.op=14 by omega),if_neg (show ¬n.op=30 by omega),if_neg (show ¬(15≤n.op∧n.op≤29) by omega)]
     show NS H2 p i _ wv1 tv ws.tail { n with w:=zer L { n with w:=v } };rw[e];exact b2
  ·rw[if_neg h32];have h32a:¬n.op=32:=fun q=>h32 (.inl q);have h32b:¬n.op=33:=fun q=>h32 (.inr q);have fin:∀(w:Int) (X:Option Outc),zer L n=w→(∀H',(∀(α:Type) (k:Hp→Option α),zas 1 H (.pointer (some ⟨i,0+1,none⟩)) (.int .i64 w) k=k H')→X=some (.next,[],H')) →
     PhA H p i (.pointer (some ⟨st,0,none⟩)) wv tv ((rdF [] ws ts (zai n.op).toNat n).map (impl L)) .next [] X:=fun w X hw hX=>by
    obtain⟨H2,b1,b2,b3⟩:=h.st (o:=0+1) (v:=.int .i64 w) (m:={ n with w:=w }) rfl rfl (by decide) rfl;refine⟨H2,wv,hX H2 b1,?_,fun j q=>q,fr_i b3⟩;rw[hw];exact b2
   simp only[zaK,hop,zaZ,zad,s_br,h31,h32a,h32b,decide_false,Bool.false_eq_true,if_false,zan,za3,qg0];by_cases h14:n.op=14
   ·refine fin (wT L (-1) n.b) _ (by unfold zer;rw[if_pos h14]) fun H' hs=>?_;simp only[h14,decide_true,if_true,zbA,zaK,hsp,hnb,zag (c40 hS.st hR.len),hs]
   ·by_cases h30:n.op=30
    ·simp only[h14,h30,show ¬((30:Int)=14) from by decide,decide_true,decide_false,Bool.false_eq_true,if_true,if_false,zbA,zaK,hsp,hna,hnb,zag (c40 hS.st hR.len),rsp,rnb,zko];by_cases hs:wT L (-1) n.a+wT L (-1) n.b>64
     ·have hw:zer L n=0:=by unfold zer;rw[if_neg h14,if_pos h30,if_pos hs]
      have hsum:IntKind.i64.wrap (wT L (-1) n.a+wT L (-1) n.b)=wT L (-1) n.a+wT L (-1) n.b:=zaz (by omega) (by omega);have hmm:∀{α:Type} (k:Value→Option α),pMM false [.int .i64 (wT L (-1) n.a+wT L (-1) n.b),.int .i64 65] k=k (.int .i64 65):=fun k=>by
       show k (.int .i64 (if (65:Int)<wT L (-1) n.a+wT L (-1) n.b then 65 else wT L (-1) n.a+wT L (-1) n.b))=_;split
       ·rfl
       ·have:wT L (-1) n.a+wT L (-1) n.b=65:=by omega
        rw[this]
      obtain⟨H2,b1,b2,b3⟩:=h.st (o:=0+1) (v:=.int .i64 65) (m:={ n with w:=65 }) rfl rfl (by decide) rfl;have hld:∀{α:Type} (k:Value→Option α),zak 1 false H2 (.pointer (some ⟨i,0+1,none⟩)) k=k (.int .i64 65):=fun k=>b2.ld 1 _ rfl k;obtain⟨H3,c1,c2,c3⟩:=b2.st (o:=0+1) (v:=.int .i64 0) (m:={ n with w:=0 }) rfl rfl (by decide) rfl;refine⟨H3,wv,?_,?_,fun j q=>q,(fr_i b3).trans (fr_i c3) fun j q=>.inl q⟩
      ·simp only[zaU,hsum,hmm,b1,hld,zb8,show ((65:Int)>64) from by decide,decide_true,if_true,c1,zad,s_br]
      ·rw[hw];exact c2
     ·refine fin (wT L (-1) n.a+wT L (-1) n.b) _ (by unfold zer;rw[if_neg h14,if_pos h30,if_neg hs]) fun H' hst=>?_;obtain⟨H2,b1,b2,b3⟩:=h.st (o:=0+1) (v:=.int .i64 (wT L (-1) n.a+wT L (-1) n.b)) (m:={ n with w:=wT L (-1) n.a+wT L (-1) n.b }) rfl rfl (by decide) rfl;have hHH:H'=H2:=by have e1:=hst Hp some;have e2:=b1 Hp some;rw[e1]at e2;exact Option.some.inj e2
      subst hHH;have hsum:IntKind.i64.wrap (wT L (-1) n.a+wT L (-1) n.b)=wT L (-1) n.a+wT L (-1) n.b:=zaz (by omega) (by omega);have hmm:∀{α:Type} (k:Value→Option α),pMM false [.int .i64 (wT L (-1) n.a+wT L (-1) n.b),.int .i64 65] k=k (.int .i64 (wT L (-1) n.a+wT L (-1) n.b)):=fun k=>by show k (.int .i64 (if (65:Int)<wT L (-1) n.a+wT L (-1) n.b then 65 else wT L (-1) n.a+wT L (-1) n.b))=_;rw[if_neg (by omega)]
      have hld:∀{α:Type} (k:Value→Option α),zak 1 false H' (.pointer (some ⟨i,0+1,none⟩)) k=k (.int .i64 (wT L (-1) n.a+wT L (-1) n.b)):=fun k=>b2.ld 1 _ rfl k;simp only[zaU,hsum,hmm,b1,hld,zb8,hs,decide_false,Bool.false_eq_true,if_false,zad,s_br]
    ·have same:∀X:Option Outc,(¬(15≤n.op∧n.op≤29))→X=some (.next,[],H)→PhA H p i (.pointer (some ⟨st,0,none⟩)) wv tv ((rdF [] ws ts (zai n.op).toNat n).map (impl L)) .next [] X:=fun X hq hX=>by
      refine⟨H,wv,hX,?_,fun j q=>q,Frm.refl _ _⟩;have:zer L n=n.w:=by unfold zer;rw[if_neg h14,if_neg h30,if_neg hq]
      show NS H p i _ wv tv ws { n with w:=zer L n };rw[this];exact h
     simp only[h14,h30,decide_false,Bool.false_eq_true,if_false,zdX,zft,zad,s_br];by_cases q1:n.op≥15
     ·by_cases q2:n.op≤29
      ·refine fin (wT L (-1) n.a) _ (by unfold zer;rw[if_neg h14,if_neg h30,if_pos ⟨q1,q2⟩]) fun H' hs=>?_;simp only[q1,q2,decide_true,if_true,zbA,zaK,hsp,hna,zag (c40 hS.st hR.len),hs]
      ·refine same _ (by omega) ?_;simp only[q1,q2,decide_true,decide_false,Bool.false_eq_true,if_true,if_false]
     ·refine same _ (by omega) ?_;simp only[q1,decide_false,Bool.false_eq_true,if_false]
theorem zm7(base:Nat)(hb:0<base):∀(l:List UInt8) (v x:Nat),v≤18446744073709551615→numL base l v=some x→x≤18446744073709551615
 |[],v,x,hv,h=>by cases h;exact hv
 |b::r,v,x,hv,h=>by
  unfold numL at h;split at h
  ·cases h
  ·split at h
   ·cases h
   ·rename_i h1 h2;refine zm7 base hb r _ x ?_ h;have hd:(digV b.toNat base).toNat≤15:=by have:=digV_lt b.toNat base;omega
    have hm:v*base≤18446744073709551615-(digV b.toNat base).toNat:=(Nat.le_div_iff_mul_le hb).1 (by omega);omega
theorem numP_lt{l:List UInt8}{x:Nat}(h:numP l=some x):x<18446744073709551616:=by
 unfold numP at h;split at h
 ·split at h
  ·cases h
  ·have:=zm7 16 (by decide) _ _ _ (by omega) h;omega
 ·split at h
  ·cases h
  ·have:=zm7 10 (by decide) _ _ _ (by omega) h;omega
def zgv(n:Nd):Prop:=0≤n.num∧n.num<18446744073709551616
theorem setF_ok{f:Fld}{w:List UInt8}{ts:List Int}{k:Nat}{n m:Nd}(h:setF f w ts k n=some m):m.op=n.op∧(zgv n→zgv m):=by
 unfold setF at h;split at h
 ·split at h
  ·cases h;refine⟨setP_op k n _,fun q=>?_⟩;unfold setP;split
   ·exact q
   ·split<;>exact q
  ·cases h
 ·split at h
  ·cases h
  ·rename_i x hx;split at h
   ·cases h;exact⟨rfl,fun _=>⟨Int.natCast_nonneg x,Int.ofNat_lt.2 (numP_lt hx)⟩⟩
   ·cases h
 ·split at h
  ·cases h
  ·cases h;exact⟨rfl,fun q=>q⟩
 ·cases h;exact⟨rfl,fun q=>q⟩
theorem zh0:∀(fs:List Fld) (ws:List (List UInt8)) (ts:List Int) (k:Nat) (n m:Nd) (ws':List (List UInt8)),rdF fs ws ts k n=some (m,ws')→m.op=n.op∧(zgv n→zgv m)
 |[],ws,ts,k,n,m,ws',h=>by cases h;exact⟨rfl,fun q=>q⟩
 |f::fs,[],ts,k,n,m,ws',h=>by cases h
 |f::fs,w::ws,ts,k,n,m,ws',h=>by
  rw[zem]at h;cases hs:setF f w ts k n with
  |none=>rw[hs]at h;cases h
  |some q=>
   rw[hs]at h;have h1:=setF_ok hs;have h2:=zh0 fs ws ts _ q m ws' h;exact⟨h2.1.trans h1.1,fun z=>h2.2 (h1.2 z)⟩
def fldsT(op:Int):List Fld:=preF op++(List.replicate (zai op).toNat .p++postF op)
def nd0(op:Int):Nd:=⟨op,0,0,0,0,0,⟨#[]⟩⟩
def zpb(ws:List (List UInt8))(ts:List Int)(L:List Nd):Option Nd:=match ws with
 |[]=>none
 |o::r=>match opF o with
  |none=>none
  |some op=>match rdF (fldsT (op:Int)) r ts 0 (nd0 (op:Int)) with
   |some (m,[])=>some { m with w:=zer L m }
   |_=>none
theorem zo3(op:Int):(preF op).count .p=0:=by
 unfold preF;split
 ·rfl
 ·split<;>rfl
def NodeA(H:Hp)(p st f g:Nat)(lim:Int)(L:List Nd)(K:List (ByteArray×Int))(sl wv tv:Value)(r:Option Nd):Prop:=match r with
 |none=>∃H',RR AI [.pointer (some ⟨p,0,none⟩)] H=some (W0 (zcd 3),H')∧Frm (fun j=>j=p∨Foot st f g sl j) H H'
 |some m=>((mkR lim L K m).2.1≠0→∃H',RR AI [.pointer (some ⟨p,0,none⟩)] H=some (W0 (zcd (mkR lim L K m).2.1),H')∧Frm (fun j=>j=p∨Foot st f g sl j) H H') ∧
  ((mkR lim L K m).2.1=0→∃H' wv' sl',RR AI [.pointer (some ⟨p,0,none⟩)] H=some (W1 (.int .i64 (mkR lim L K m).1),H')∧RdS H' p (.pointer (some ⟨st,0,none⟩)) wv' tv []∧StF H' st lim (mkR lim L K m).2.2.1 (mkR lim L K m).2.2.2 sl' f g ∧
   Frm (fun j=>j=p∨Foot st f g sl j) H H'∧(∀j,Foot st f g sl' j→Foot st f g sl j∨H.next≤j)∧(∀j,Id wv' j→Id wv j))
theorem c_node{H:Hp}{p:Nat}{st f g:Nat}{lim:Int}{L:List Nd}{K:List (ByteArray×Int)}{sl:Value}{wv tv:Value}{ws:List (List UInt8)}{ts:List Int}
  (h:RdS H p (.pointer (some ⟨st,0,none⟩)) wv tv ws) (hp:PP.globals.size≤p) (hL:Laid H) (hS:StF H st lim L K sl f g) (hR:zjf L) (ht:Vec H 1 tv ts.length (i64s ts)) (htp:¬Id tv p)
  (hfp:¬Foot st f g sl p) (hfw:∀j,Id wv j→¬Foot st f g sl j):NodeA H p st f g lim L K sl wv tv (zpb ws ts L):=by
 have hrun:=zfZ E0 rfl (.pointer (some ⟨p,0,none⟩)) H;rw[zgi]at hrun;have wid:∀{H':Hp},Frm (· = p) H H'→Frm (fun j=>j=p∨Foot st f g sl j) H H':=fun k=>k.mono fun j q=>.inl (.inl q);cases ws with
 |nil=>
  rw[zbM h.stop]at hrun;exact⟨H,hrun,Frm.refl _ _⟩
 |cons o r=>
  obtain⟨H1,wv1,a1,a2,a3,a4⟩:=h.next;have hL1:Laid H1:=hL.keep a4 fun j q=>by rw[q];exact hp
  obtain⟨H2,b1,b2⟩:=znw o H1 hL1;rw[zbL a1]at hrun;have hf2:Frm (· = p) H H2:=a4.trans (b1.mono fun j q=>q.elim) fun j q=>.inl q;unfold zpb;dsimp only;cases ho:opF o with
  |none=>
   rw[ho]at b2;rw[zbM b2]at hrun;exact⟨H2,hrun,wid hf2⟩
  |some op=>
   rw[ho]at b2;have hob:=opF_bd ho;rw[zbL b2,b0]at hrun;dsimp only;let i:=H2.next
   let H3:=H2.new (.cells [.int .i64 0,.int .i64 0,.int .i64 0,.int .i64 0,.int .i64 0,.int .u64 0,.string ⟨#[]⟩] true)
   let n0:Nd:=nd0 (op:Int)
   let H4:=H3.set i (some (.cells n0.cells true))
   have hpi:p≠i:=by have:=h.pl;have:=hf2.next;show p≠H2.next;omega
   have hst7:∀{α:Type} (k:Hp→Option α),zas 7 H3 (.pointer (some ⟨i,0,none⟩)) n0.val k=k H4:=fun k=>by
    have e:H3.wr (.pointer (some ⟨i,0,none⟩)) 7 n0.val=some H4:=by
     have hg:H3.get i=some (.cells [.int .i64 0,.int .i64 0,.int .i64 0,.int .i64 0,.int .i64 0,.int .u64 0,.string ⟨#[]⟩] true):=if_pos rfl;have hw:zbm 7 [.int .i64 0,.int .i64 0,.int .i64 0,.int .i64 0,.int .i64 0,.int .u64 0,.string ⟨#[]⟩] 0 n0.val=some n0.cells:=by kernel_rfl
     show (match H3.get i with|some (.cells cs true)=>(match zbm 7 cs 0 n0.val with|some cs'=>some (H3.set i (some (.cells cs' true)))|none=>none)|_=>none)=_;rw[hg];dsimp only;rw[hw]
    unfold zas;rw[e]
   have hf24:Frm (fun _=>False) H2 H4:=(zcz _ _ _).trans (zfm H3 i _ (· = i) rfl) fun j q=>.inr (by rw[q];exact Nat.le_refl _);have hf4:Frm (· = p) H H4:=hf2.trans (hf24.mono fun j q=>q.elim) fun j q=>.inl q;have hN:NS H4 p i (.pointer (some ⟨st,0,none⟩)) wv1 tv r n0:=by
    have h2:RdS H2 p (.pointer (some ⟨st,0,none⟩)) wv1 tv r:=a2.keep b1 (fun q=>q) fun _ _ q=>q;refine⟨h2.keep hf24 (fun q=>q) (fun _ _ q=>q),fun q=>?_,hpi,by show (H3.set i _).get i=_;rw[get_set,if_pos rfl],by show H2.next<H2.next+1;omega⟩;have:i<H2.next:=by
     rcases h2.wd with⟨_,e⟩|⟨y,c,pre,rest,own,e,_,_,hlt⟩
     ·rw[e]at q;cases q
     ·rw[e]at q;have e2:y=i:=Option.some.inj q;rw[e2]at hlt;exact hlt
    exact Nat.lt_irrefl _ this
   have hA:Away p i:=⟨hp,by have:=hL.next;have:=hf2.next;show _≤H2.next;omega⟩
   have hti:¬Id tv i:=fun q=>by have:=ht.lt q;have:=hf2.next;have:i=H2.next:=rfl;omega
   have hL4:Laid H4:=hL.keep hf4 fun j q=>by rw[q];exact hp
   have bkk:∀{H':Hp},Frm (fun j=>j=p∨j=i) H4 H'→Frm (· = p) H H':=fun k=>hf4.trans (k.mono fun j q=>.inl q) fun j q=>by
    rcases q with q|q
    ·exact .inl q
    ·right;rw[q];exact hf2.next
   have hpa:∀{α:Type} (k:Value→Hp→Option α),zcX [.int .i64 0,.int .i64 0,.int .i64 0,.int .i64 0,.int .i64 0,.int .u64 0,.string ⟨#[]⟩] H2 k=k (.pointer (some ⟨i,0,none⟩)) H3:=fun k=>rfl;rw[hpa,show (Nd.val ⟨(op:Int),0,0,0,0,0,⟨#[]⟩⟩)=n0.val from rfl,hst7]at hrun;have p1:=ph1_ok hN hA hL4 ts;have hfl:rdF (fldsT (op:Int)) r ts 0 n0=match rdF (preF n0.op) r ts 0 n0 with
     |none=>none
     |some (m1,w1)=>match rdF (List.replicate (zai m1.op).toNat .p) w1 ts 0 m1 with
      |none=>none
      |some (m2,w2)=>rdF (postF m2.op) w2 ts (zai m2.op).toNat m2:=by
    unfold fldsT;rw[rdF_app,show n0.op=(op:Int) from rfl];cases e1:rdF (preF (op:Int)) r ts 0 n0 with
    |none=>rfl
    |some q1=>
     obtain⟨m1,w1⟩:=q1;have o1:m1.op=(op:Int):=(zh0 _ _ _ _ _ _ _ e1).1;dsimp only;rw[rdF_app,zo3,o1,Nat.add_zero];cases e2:rdF (List.replicate (zai (op:Int)).toNat .p) w1 ts 0 m1 with
     |none=>rfl
     |some q2=>
      obtain⟨m2,w2⟩:=q2;have o2:m2.op=(op:Int):=(zh0 _ _ _ _ _ _ _ e2).1.trans o1;dsimp only;rw[o2,Nat.zero_add,count_replicate_self]
   show NodeA H p st f g lim L K sl wv tv (match rdF (fldsT (op:Int)) r ts 0 n0 with
    |some (m,[])=>some { m with w:=zer L m }
    |_=>none)
   rw[hfl];have no:zgv n0:=⟨by show (0:Int)≤0;decide,by show (0:Int)<18446744073709551616;decide⟩
   cases e1:rdF (preF n0.op) r ts 0 n0 with
   |none=>
    rw[e1]at p1;obtain⟨H5,c1,c2⟩:=p1;have c1:ph1 (.pointer (some ⟨p,0,none⟩)) (.pointer (some ⟨i,0,none⟩)) H4=some (.ret,[W0 (zcd 3)],H5):=c1;refine⟨H5,hrun.trans ?_,wid (bkk c2)⟩;show zaw (ph1 (.pointer (some ⟨p,0,none⟩)) (.pointer (some ⟨i,0,none⟩)) H4) _=_;rw[c1];rfl
   |some q1=>
    obtain⟨m1,w1⟩:=q1;rw[e1]at p1;obtain⟨H5,wv5,c1,c2,c3,c4⟩:=p1;have g1:=zh0 _ _ _ _ _ _ _ e1;have hL5:Laid H5:=hA.laid hL4 c4;have ht5:Vec H5 1 tv ts.length (i64s ts):=ht.keep (bkk c4) fun j hj q=>htp (by rw[q]at hj;exact hj);have hb:=partsT_le m1.op;obtain⟨P,hP⟩:∃P:Nat,zai m1.op=(P:Int):=⟨(zai m1.op).toNat,by omega⟩
    have p2:=zn2 hA ts P (by omega) htp hti P 0 H5 wv5 w1 m1 (by omega) c2 hL5 ht5;have hrun2:RR AI [.pointer (some ⟨p,0,none⟩)] H=_:=hrun;have hop5:∀{α:Type} (k:Value→Option α),zak 1 false H5 (.pointer (some ⟨i,0+0,none⟩)) k=k (.int .i64 m1.op):=fun k=>c2.ld 0 _ rfl k;dsimp only;have hPn:(zai m1.op).toNat=P:=by omega
    rw[hPn];have hrun3:=hrun.trans (show zaw (ph1 (.pointer (some ⟨p,0,none⟩)) (.pointer (some ⟨i,0,none⟩)) H4) _=_ by rw[c1,zan,za3,zaK,hop5,zag (c29 m1.op H5),hP]);have p2':PhA H5 p i (.pointer (some ⟨st,0,none⟩)) wv5 tv (rdF (List.replicate P .p) w1 ts 0 m1) (.exit 1) [.int .i64 (P:Int)] (zau (zaM RR (.pointer (some ⟨p,0,none⟩)) (.int .i64 (P:Int)) (.pointer (some ⟨i,0,none⟩))) [.int .i64 0] H5):=p2;cases e2:rdF (List.replicate P .p) w1 ts 0 m1 with
    |none=>
     rw[e2]at p2';obtain⟨H6,d1,d2⟩:=p2';refine⟨H6,hrun3.trans ?_,wid (bkk (c4.trans d2 fun j q=>.inl q))⟩;rw[d1];rfl
    |some q2=>
     obtain⟨m2,w2⟩:=q2;rw[e2]at p2';obtain⟨H6,wv6,d1,d2,d3,d4⟩:=p2';have g2:=zh0 _ _ _ _ _ _ _ e2;have c46:Frm (fun j=>j=p∨j=i) H4 H6:=c4.trans d4 fun j q=>.inl q;have hL6:Laid H6:=hA.laid hL4 c46;have hS6:StF H6 st lim L K sl f g:=hS.keep (fun j hj=>(bkk c46).same j (hS.foot_lt hj) fun q=>hfp (by rw[q]at hj;exact hj)) (bkk c46).next;have p3:=ph3_ok d2 hA hL6 hS6 hR ts;dsimp only;cases e3:rdF (postF m2.op) w2 ts (zai m2.op).toNat m2 with
     |none=>
      rw[e3]at p3;obtain⟨H7,x1,x2⟩:=p3;have x1:ph3 (.pointer (some ⟨p,0,none⟩)) (.pointer (some ⟨i,0,none⟩)) H6=some (.ret,[W0 (zcd 3)],H7):=x1;refine⟨H7,hrun3.trans ?_,wid (bkk (c46.trans x2 fun j q=>.inl q))⟩;rw[d1,zan,za6,zaC];show zaw (ph3 (.pointer (some ⟨p,0,none⟩)) (.pointer (some ⟨i,0,none⟩)) H6) _=_;rw[x1];rfl
     |some q3=>
      obtain⟨m3,w3⟩:=q3;rw[e3]at p3;obtain⟨H7,wv7,x1,x2,x3,x4⟩:=p3;have g3:=zh0 _ _ _ _ _ _ _ e3;have x1:ph3 (.pointer (some ⟨p,0,none⟩)) (.pointer (some ⟨i,0,none⟩)) H6=some (.next,[],H7):=x1;have c47:Frm (fun j=>j=p∨j=i) H4 H7:=c46.trans x4 fun j q=>.inl q;let m:Nd:={ m3 with w:=zer L m3 }
      have x2:NS H7 p i (.pointer (some ⟨st,0,none⟩)) wv7 tv w3 m:=x2;have hwv:∀{α:Type} (k:Value→Option α),zak 1 false H7 (.pointer (some ⟨p,0+1,none⟩)) k=k wv7:=fun k=>zbi x2.rs.rd 1 _ rfl k;have hsp:∀{α:Type} (k:Value→Option α),zak 1 false H7 (.pointer (some ⟨p,0+0,none⟩)) k=k (.pointer (some ⟨st,0,none⟩)):=fun k=>zbi x2.rs.rd 0 _ rfl k;have hrun4:=hrun3.trans (show _=_ by rw[d1,zan,za6,zaC]);have hrun5:=hrun4.trans (show zaw (ph3 (.pointer (some ⟨p,0,none⟩)) (.pointer (some ⟨i,0,none⟩)) H6) _=_ by rw[x1,zan,za3,zbA,zaK,hwv,x2.rs.wd.len]);cases w3 with
      |cons w w3=>
       refine⟨H7,hrun5.trans ?_,wid (bkk c47)⟩;have hz:(((w::w3).length:Int)>0):=by rw[length_cons];omega
       simp only[zb8,hz,decide_true,zad,s_br,if_true,zb9]
      |nil=>
       have hz:¬((([]:List (List UInt8)).length:Int)>0):=by decide
       have hld7:∀{α:Type} (k:Value→Option α),zak 7 true H7 (.pointer (some ⟨i,0,none⟩)) k=k m.val:=fun k=>by
        have e:H7.rdP (.pointer (some ⟨i,0,none⟩)) 7 true=some m.val:=by simp only[Hp.rdP,Hp.rd,x2.nd,zcf];kernel_rfl
        unfold zak;rw[e]
       have hS7:StF H7 st lim L K sl f g:=hS.keep (fun j hj=>(bkk c47).same j (hS.foot_lt hj) fun q=>hfp (by rw[q]at hj;exact hj)) (bkk c47).next;have hm:zgv m:=g3.2 (g2.2 (g1.2 no));obtain⟨H8,sl8,y1,y2⟩:=d22 hS7 hR m hm
       have hrun6:=hrun5.trans (show _=_ by
        simp only[zb8,hz,decide_false,zad,s_br,Bool.false_eq_true,if_false,zbA,zaK,hsp,hld7]
        rw[zag y1,x01])
       have hfm:Frm (Foot st f g sl) H7 H8:=⟨y2.next,fun j hj hn=>y2.frame j hj (fun q=>hn (.inl q)) (fun q=>hn (.inr (.inl q))) (fun q=>hn (.inr (.inr (.inl q)))) (fun q=>hn (.inr (.inr (.inr q))))⟩
       have hff:Frm (fun j=>j=p∨Foot st f g sl j) H H8:=(wid (bkk c47)).trans (hfm.mono fun j q=>.inl q) fun j q=>.inl (.inr q);refine⟨fun hne=>⟨H8,hrun6.trans ?_,hff⟩,fun heq=>⟨H8,wv7,sl8,hrun6.trans ?_,?_,y2.st,hff,fun j q=>?_,fun j q=>a3 j (c3 j (d3 j (x3 j q)))⟩⟩
       ·have hne:¬((mkR lim L K m).2.1=0):=hne;simp only[zba,hne,ne_eq,not_false_eq_true,decide_true,zad,s_br,if_true,zb9];rfl
       ·have e0:¬((mkR lim L K m).2.1≠0):=fun q=>q heq;simp only[zba,e0,decide_false,zad,s_br,Bool.false_eq_true,if_false];rfl
       ·exact x2.rs.keep hfm hfp fun j hj=>hfw j (a3 j (c3 j (d3 j (x3 j hj))))
       ·rcases q with q|q|q|q
        ·exact .inl (.inl q)
        ·exact .inl (.inr (.inl q))
        ·exact .inl (.inr (.inr (.inl q)))
        ·rcases y2.own j q with z|z
         ·exact .inl (.inr (.inr (.inr z)))
         ·right;have:=(bkk c47).next;omega
structure Reg(B:Nat)(H:Hp)(r:Nat→Nat→Prop):Prop where
 lt:∀a j,r a j→j<H.next
 lo:∀a j,r a j→B≤j
 ap:∀a b j,r a j→r b j→a=b
def InR(S:List Nat)(r:Nat→Nat→Prop)(j:Nat):Prop:=∃a,a∈S∧r a j
theorem Reg.off{B:Nat}{H:Hp}{r:Nat→Nat→Prop}(h:Reg B H r){S:List Nat}{b j:Nat}(hj:r b j)(hb:b∉S):¬InR S r j:=fun⟨a,ha,hr⟩=>hb (h.ap a b j hr hj▸ha)
theorem Reg.upd{B:Nat}{H H':Hp}{r r':Nat→Nat→Prop}(h:Reg B H r)(a:Nat)(hn:H.next≤H'.next)(hg:B≤H.next)(same:∀b j,b≠a→r' b j→r b j)(new:∀j,r' a j→r a j∨(H.next≤j∧j<H'.next)):Reg B H' r':=by
 have key:∀b j,r' b j→r b j∨(b=a∧H.next≤j∧j<H'.next):=fun b j hj=>by
  by_cases e:b=a
  ·subst e;rcases new j hj with q|q
   ·exact .inl q
   ·exact .inr ⟨rfl,q⟩
  ·exact .inl (same b j e hj)
 refine⟨fun b j hj=>?_,fun b j hj=>?_,fun b c j hb hc=>?_⟩
 ·rcases key b j hj with q|⟨_,_,q⟩
  ·exact Nat.lt_of_lt_of_le (h.lt b j q) hn
  ·exact q
 ·rcases key b j hj with q|⟨_,q,_⟩
  ·exact h.lo b j q
  ·omega
 ·rcases key b j hb with q|⟨q,q1,_⟩<;>rcases key c j hc with z|⟨z,z1,_⟩
  ·exact h.ap b c j q z
  ·have:=h.lt b j q;omega
  ·have:=h.lt c j z;omega
  ·rw[q,z]
def LRg(p1 p3 p5 st f g p:Nat)(sl lv tv rv wv:Value):Nat→Nat→Prop
 |0=>fun j=>j=p1
 |1=>fun j=>j=p3
 |2=>fun j=>j=p5
 |3=>Foot st f g sl
 |4=>Id lv
 |5=>fun j=>j=p
 |6=>Id tv
 |7=>Id rv
 |8=>Id wv
 |_=>fun _=>False
structure LS(B:Nat)(H:Hp)(p1 p3 p5 st f g p:Nat)(lim:Int)(lv:Value)(lines:List (List UInt8))(L:List Nd)(K:List (ByteArray×Int))(sl tv:Value)(ts:List Int)(rv:Value)(rs:List Int)(wv:Value)(ws:List (List UInt8)):Prop where
 gB:PP.globals.size≤B
 bn:B≤H.next
 reg:Reg B H (LRg p1 p3 p5 st f g p sl lv tv rv wv)
 b1:H.get p1=some (.cells [.pointer (some ⟨st,0,none⟩)] true)
 b3:H.get p3=some (.cells [rv] true)
 b5:H.get p5=some (.cells [.int .i64 0] true)
 store:StF H st lim L K sl f g
 lin:Vec H 1 lv lines.length (lines.map str)
 rd:RdS H p (.pointer (some ⟨st,0,none⟩)) wv tv ws
 tv:Vec H 1 tv ts.length (i64s ts)
 rv:Vec H 1 rv rs.length (i64s rs)
 laid:Laid H
section
variable {B:Nat}{H H':Hp}{p1 p3 p5 st f g p:Nat}{lim:Int}{lv:Value}{lines:List (List UInt8)}{L:List Nd}{K:List (ByteArray×Int)}{sl tv:Value}{ts:List Int}{rv:Value}{rs:List Int}{wv:Value}{ws:List (List UInt8)}
theorem LS.off(h:LS B H p1 p3 p5 st f g p lim lv lines L K sl tv ts rv rs wv ws)(S:List Nat)(b:Nat)(hb:b∉S){j:Nat}(hj:LRg p1 p3 p5 st f g p sl lv tv rv wv b j):¬InR S (LRg p1 p3 p5 st f g p sl lv tv rv wv) j:=h.reg.off hj hb
theorem LS.lay(h:LS B H p1 p3 p5 st f g p lim lv lines L K sl tv ts rv rs wv ws){S:List Nat}(k:Frm (InR S (LRg p1 p3 p5 st f g p sl lv tv rv wv)) H H'):Laid H':=h.laid.keep k fun j ⟨a,_,q⟩=>Nat.le_trans h.gB (h.reg.lo a j q)
theorem LS.up(h:LS B H p1 p3 p5 st f g p lim lv lines L K sl tv ts rv rs wv ws){S:List Nat}(k:Frm (InR S (LRg p1 p3 p5 st f g p sl lv tv rv wv)) H H'):Frm (B ≤ ·) H H':=k.mono fun j ⟨a,_,q⟩=>.inl (h.reg.lo a j q)
theorem LS.read(h:LS B H p1 p3 p5 st f g p lim lv lines L K sl tv ts rv rs wv ws)(k:Frm (· = p) H H'){wv':Value}{ws':List (List UInt8)}(hr:RdS H' p (.pointer (some ⟨st,0,none⟩)) wv' tv ws')(hw:∀j,Id wv' j→Id wv j∨(H.next≤j∧j<H'.next)) :
  LS B H' p1 p3 p5 st f g p lim lv lines L K sl tv ts rv rs wv' ws':=by
 have k':Frm (InR [5] (LRg p1 p3 p5 st f g p sl lv tv rv wv)) H H':=k.mono fun j q=>.inl ⟨5,by simp,q⟩;have o:∀b j,b∉[5]→LRg p1 p3 p5 st f g p sl lv tv rv wv b j→H'.get j=H.get j:=fun b j hb hj=>k'.same j (h.reg.lt b j hj) (h.off [5] b hb hj)
 refine⟨h.gB,Nat.le_trans h.bn k.next,h.reg.upd 8 k.next h.bn (fun b j hb hj=>?_) fun j hj=>hw j hj,by rw[o 0 p1 (by decide) rfl];exact h.b1,by rw[o 1 p3 (by decide) rfl];exact h.b3,by rw[o 2 p5 (by decide) rfl];exact h.b5,
  h.store.keep (fun j hj=>o 3 j (by decide) hj) k.next,h.lin.keep' (fun j hj=>o 4 j (by decide) hj) k.next,hr,h.tv.keep' (fun j hj=>o 6 j (by decide) hj) k.next,h.rv.keep' (fun j hj=>o 7 j (by decide) hj) k.next,h.lay k'⟩
 match b,hb,hj with
 |0,_,hj=>exact hj
 |1,_,hj=>exact hj
 |2,_,hj=>exact hj
 |3,_,hj=>exact hj
 |4,_,hj=>exact hj
 |5,_,hj=>exact hj
 |6,_,hj=>exact hj
 |7,_,hj=>exact hj
 |8,hb,_=>exact absurd rfl hb
 |n+9,_,hj=>exact hj
theorem LS.grow(h:LS B H p1 p3 p5 st f g p lim lv lines L K sl tv ts rv rs wv ws)(k:Frm (fun j=>j=p∨Foot st f g sl j) H H'){wv':Value}{ws':List (List UInt8)}(hr:RdS H' p (.pointer (some ⟨st,0,none⟩)) wv' tv ws')(hw:∀j,Id wv' j→Id wv j)
  {L':List Nd} {K':List (ByteArray×Int)} {sl':Value} (hs:StF H' st lim L' K' sl' f g) (hf:∀j,Foot st f g sl' j→Foot st f g sl j∨H.next≤j) :
  LS B H' p1 p3 p5 st f g p lim lv lines L' K' sl' tv ts rv rs wv' ws':=by
 have k':Frm (InR [3,5] (LRg p1 p3 p5 st f g p sl lv tv rv wv)) H H':=k.mono fun j q=>.inl (by rcases q with q|q;exact⟨5,by simp,q⟩;exact⟨3,by simp,q⟩);have o:∀b j,b∉[3,5]→LRg p1 p3 p5 st f g p sl lv tv rv wv b j→H'.get j=H.get j:=fun b j hb hj=>k'.same j (h.reg.lt b j hj) (h.off [3,5] b hb hj)
 have r1:Reg B H' (LRg p1 p3 p5 st f g p sl' lv tv rv wv):=h.reg.upd 3 k.next h.bn (fun b j hb hj=>by
  match b,hb,hj with
  |0,_,hj=>exact hj
  |1,_,hj=>exact hj
  |2,_,hj=>exact hj
  |3,hb,_=>exact absurd rfl hb
  |4,_,hj=>exact hj
  |5,_,hj=>exact hj
  |6,_,hj=>exact hj
  |7,_,hj=>exact hj
  |8,_,hj=>exact hj
  |n+9,_,hj=>exact hj) fun j hj=>(hf j hj).imp id fun q=>⟨q,hs.foot_lt hj⟩
 have r2:Reg B H' (LRg p1 p3 p5 st f g p sl' lv tv rv wv'):=r1.upd 8 (Nat.le_refl _) (Nat.le_trans h.bn k.next) (fun b j hb hj=>by
  match b,hb,hj with
  |0,_,hj=>exact hj
  |1,_,hj=>exact hj
  |2,_,hj=>exact hj
  |3,_,hj=>exact hj
  |4,_,hj=>exact hj
  |5,_,hj=>exact hj
  |6,_,hj=>exact hj
  |7,_,hj=>exact hj
  |8,hb,_=>exact absurd rfl hb
  |n+9,_,hj=>exact hj) fun j hj=>.inl (hw j hj)
 exact⟨h.gB,Nat.le_trans h.bn k.next,r2,by rw[o 0 p1 (by decide) rfl];exact h.b1,by rw[o 1 p3 (by decide) rfl];exact h.b3,by rw[o 2 p5 (by decide) rfl];exact h.b5,
  hs,h.lin.keep' (fun j hj=>o 4 j (by decide) hj) k.next,hr,h.tv.keep' (fun j hj=>o 6 j (by decide) hj) k.next,h.rv.keep' (fun j hj=>o 7 j (by decide) hj) k.next,h.lay k'⟩
theorem zkp{α:Type}(z x:Int)(H:Hp)(k:Value→Hp→Option α):zal 1 [.int .i64 z] 1 [(0,.int .i64 x)] H k=k (.slice (some ⟨H.next,0,some 1⟩) 1 1) (H.new (.cells [.int .i64 x] true)):=by
 have:zbY 1 [.int .i64 z] 1 [(0,.int .i64 x)] H=some (.slice (some ⟨H.next,0,some 1⟩) 1 1,H.new (.cells [.int .i64 x] true)):=by unfold zbY;rw[if_neg (by decide)];rfl
 unfold zal;rw[this]
theorem zey{cs:List Value}{o:Nat}{v:Value}{i:Nat}(hg:H.get i=some (.cells cs true))(hc:zab v=[v])(h1:one v=true)(ho:o<cs.length){α:Type}(k:Hp→Option α) :
  zas 1 H (.pointer (some ⟨i,o,none⟩)) v k=k (H.set i (some (.cells (spl cs o [v]) true))):=by
 have hw:zbm 1 cs o v=some (spl cs o [v]):=by unfold zbm;rw[hc,if_pos ⟨rfl,by omega,by simp[h1]⟩]
 have:H.wr (.pointer (some ⟨i,o,none⟩)) 1 v=some (H.set i (some (.cells (spl cs o [v]) true))):=by show (match H.get i with|some (.cells cs true)=>(match zbm 1 cs o v with|some cs'=>some (H.set i (some (.cells cs' true)))|none=>none)|_=>none)=_;rw[hg];dsimp only;rw[hw]
 unfold zas;rw[this]
theorem zdq{sz:Nat}{v:Value}{n:Nat}{cs:List Value}(h:Vec H sz v n cs):zab v=[v]∧one v=true:=by rcases h with⟨_,_,rfl⟩|⟨y,c,rest,rfl,_⟩<;>exact⟨rfl,rfl⟩
theorem znC{v:Value}{l:List Int}(h:Vec H 1 v l.length (i64s l))(hl:l.length≤2^40)(x z:Int) :
  ∃v' H',(∀(α:Type) (k:Value→Hp→Option α),zaF 1 8 v (.slice (some ⟨H.next,0,some 1⟩) 1 1) (H.new (.cells [.int .i64 x] true)) k=k v' H')∧Vec H' 1 v' (l++[x]).length (i64s (l++[x]))∧Frm (Id v) H H'∧(∀j,Id v' j→Id v j∨(H.next≤j∧j<H'.next)):=by
 obtain⟨v',H',h1,h2,h3,h4,_⟩:=h.push (bytes:=8) (zs:=[.int .i64 z]) (x:=.int .i64 x) (by omega) (by omega) rfl rfl rfl (by omega);refine⟨v',H',fun α k=>?_,?_,h3,fun j hj=>(h4 j hj).imp id fun q=>⟨q,h2.lt hj⟩⟩
 ·have:=h1 α k;rw[zkp]at this;exact this
 ·have e:i64s (l++[x])=i64s l++zab (.int .i64 x):=by simp[i64s,zab,Value.cells]
  rw[length_append,e];exact h2
theorem LS.root(h:LS B H p1 p3 p5 st f g p lim lv lines L K sl tv ts rv rs wv ws)(hl:rs.length≤2^40)(x z:Int) :
  ∃rv' H',(∀(α:Type) (k:Hp→Option α),(zal 1 [.int .i64 z] 1 [(0,.int .i64 x)] H fun v88 H89=>chk (Hp.rdP H89 (.pointer (some ⟨p3,0,none⟩)) 1 false=some rv) (zaF 1 8 rv v88 H89 fun v90 H91=>zas 1 H91 (.pointer (some ⟨p3,0,none⟩)) v90 k))=k H') ∧
   LS B H' p1 p3 p5 st f g p lim lv lines L K sl tv ts rv' (rs++[x]) wv ws∧Frm (InR [1,7] (LRg p1 p3 p5 st f g p sl lv tv rv wv)) H H'∧(∀j,Id rv' j→Id rv j∨H.next≤j):=by
 obtain⟨rv',H1,a1,a2,a3,a4⟩:=znC h.rv hl x z;have hp3:p3<H.next:=h.reg.lt 1 p3 rfl;have n3:¬Id rv p3:=fun q=>by have:=h.reg.ap 1 7 p3 rfl q;omega
 have g3:H1.get p3=some (.cells [rv] true):=by rw[a3.same p3 hp3 n3];exact h.b3
 have n3':¬Id rv' p3:=fun q=>by
  rcases a4 p3 q with z|z
  ·exact n3 z
  ·omega
 have f2:Frm (· = p3) H1 (H1.set p3 (some (.cells [rv'] true))):=zfm _ _ _ _ rfl;have k':Frm (InR [1,7] (LRg p1 p3 p5 st f g p sl lv tv rv wv)) H (H1.set p3 (some (.cells [rv'] true))):=(a3.mono fun j q=>.inl ⟨7,by simp,q⟩).trans (f2.mono fun j q=>.inl q) fun j q=>.inl ⟨1,by simp,q⟩;have o:∀b j,b∉[1,7]→LRg p1 p3 p5 st f g p sl lv tv rv wv b j→(H1.set p3 (some (.cells [rv'] true))).get j=H.get j:=fun b j hb hj=>k'.same j (h.reg.lt b j hj) (h.off [1,7] b hb hj)
 have r1:Reg B (H1.set p3 (some (.cells [rv'] true))) (LRg p1 p3 p5 st f g p sl lv tv rv' wv):=h.reg.upd 7 k'.next h.bn (fun b j hb hj=>by
  match b,hb,hj with
  |0,_,hj=>exact hj
  |1,_,hj=>exact hj
  |2,_,hj=>exact hj
  |3,_,hj=>exact hj
  |4,_,hj=>exact hj
  |5,_,hj=>exact hj
  |6,_,hj=>exact hj
  |7,hb,_=>exact absurd rfl hb
  |8,_,hj=>exact hj
  |n+9,_,hj=>exact hj) a4
 refine⟨rv',H1.set p3 (some (.cells [rv'] true)),fun α k=>?_,⟨h.gB,Nat.le_trans h.bn k'.next,r1,by rw[o 0 p1 (by decide) rfl];exact h.b1,by rw[get_set,if_pos rfl],by rw[o 2 p5 (by decide) rfl];exact h.b5,
  h.store.keep (fun j hj=>o 3 j (by decide) hj) k'.next,h.lin.keep' (fun j hj=>o 4 j (by decide) hj) k'.next,h.rd.keep k' (h.off [1,7] 5 (by decide) rfl) fun j hj=>h.off [1,7] 8 (by decide) hj,
  h.tv.keep' (fun j hj=>o 6 j (by decide) hj) k'.next,a2.keep f2 fun j hj e=>n3' (by rw[e]at hj;exact hj),h.lay k'⟩,k',fun j hj=>(a4 j hj).imp id fun q=>q.1⟩
 rw[zkp];have hrd:Hp.rdP (H.new (.cells [.int .i64 x] true)) (.pointer (some ⟨p3,0,none⟩)) 1 false=some rv:=zlv (own:=true) (cs:=[rv]) (by rw[get_new,if_neg (by omega)];exact h.b3) 0 rv rfl;rw[zko hrd,a1];exact zey g3 (zdq a2).1 (zdq a2).2 (by show 0<1;decide) k
theorem LS.term(h:LS B H p1 p3 p5 st f g p lim lv lines L K sl tv ts rv rs wv ws)(hl:ts.length≤2^40)(x z:Int) :
  ∃tv' H',(∀(α:Type) (k:Hp→Option α),(zal 1 [.int .i64 z] 1 [(0,.int .i64 x)] H fun v88 H89=>zaF 1 8 tv v88 H89 fun v90 H91=>zas 1 H91 (.pointer (some ⟨p,0+2,none⟩)) v90 k)=k H') ∧
   LS B H' p1 p3 p5 st f g p lim lv lines L K sl tv' (ts++[x]) rv rs wv ws∧Frm (InR [5,6] (LRg p1 p3 p5 st f g p sl lv tv rv wv)) H H'∧(∀j,Id tv' j→Id tv j∨H.next≤j):=by
 obtain⟨tv',H1,a1,a2,a3,a4⟩:=znC h.tv hl x z;have hp:p<H.next:=h.reg.lt 5 p rfl;have n3:¬Id tv p:=fun q=>by have:=h.reg.ap 5 6 p rfl q;omega
 have g3:H1.get p=some (.cells [.pointer (some ⟨st,0,none⟩),wv,tv] true):=by rw[a3.same p hp n3];exact h.rd.rd
 have n3':¬Id tv' p:=fun q=>by
  rcases a4 p q with z|z
  ·exact n3 z
  ·omega
 let H2:=H1.set p (some (.cells [.pointer (some ⟨st,0,none⟩),wv,tv'] true))
 have f2:Frm (· = p) H1 H2:=zfm _ _ _ _ rfl;have k':Frm (InR [5,6] (LRg p1 p3 p5 st f g p sl lv tv rv wv)) H H2:=(a3.mono fun j q=>.inl ⟨6,by simp,q⟩).trans (f2.mono fun j q=>.inl q) fun j q=>.inl ⟨5,by simp,q⟩;have o:∀b j,b∉[5,6]→LRg p1 p3 p5 st f g p sl lv tv rv wv b j→H2.get j=H.get j:=fun b j hb hj=>k'.same j (h.reg.lt b j hj) (h.off [5,6] b hb hj)
 have r1:Reg B H2 (LRg p1 p3 p5 st f g p sl lv tv' rv wv):=h.reg.upd 6 k'.next h.bn (fun b j hb hj=>by
  match b,hb,hj with
  |0,_,hj=>exact hj
  |1,_,hj=>exact hj
  |2,_,hj=>exact hj
  |3,_,hj=>exact hj
  |4,_,hj=>exact hj
  |5,_,hj=>exact hj
  |6,hb,_=>exact absurd rfl hb
  |7,_,hj=>exact hj
  |8,_,hj=>exact hj
  |n+9,_,hj=>exact hj) a4
 refine⟨tv',H2,fun α k=>?_,⟨h.gB,Nat.le_trans h.bn k'.next,r1,by rw[o 0 p1 (by decide) rfl];exact h.b1,by rw[o 1 p3 (by decide) rfl];exact h.b3,by rw[o 2 p5 (by decide) rfl];exact h.b5,
  h.store.keep (fun j hj=>o 3 j (by decide) hj) k'.next,h.lin.keep' (fun j hj=>o 4 j (by decide) hj) k'.next,
  ⟨by show (H1.set p _).get p=_;rw[get_set,if_pos rfl],h.rd.wd.keep k' fun j hj=>h.off [5,6] 8 (by decide) hj,h.rd.wp,Nat.lt_of_lt_of_le hp k'.next,h.rd.sh⟩,
  a2.keep f2 fun j hj e=>n3' (by rw[e]at hj;exact hj),h.rv.keep' (fun j hj=>o 7 j (by decide) hj) k'.next,h.lay k'⟩,k',fun j hj=>(a4 j hj).imp id fun q=>q.1⟩
 rw[zkp,a1];exact zey g3 (zdq a2).1 (zdq a2).2 (by show 2<3;decide) k
end
def zdF(ts:List Int):List (List UInt8)→Option (List Int)
 |[]=>some []
 |w::r=>match zkG ts (w::r) with
  |none=>none
  |some t=>match zdF ts r with
   |none=>none
   |some l=>some (t::l)
theorem zjp{B:Nat}{p1 p3 p5 st f g p:Nat}{lim:Int}{lv:Value}{lines:List (List UInt8)}{L:List Nd}{K:List (ByteArray×Int)}{sl tv:Value}{ts:List Int}(lineV:Value):∀(ws:List (List UInt8)) (H:Hp) (rv:Value) (rs:List Int) (wv:Value),LS B H p1 p3 p5 st f g p lim lv lines L K sl tv ts rv rs wv ws→rs.length+ws.length≤2^40 →
  match zdF ts ws with
  |none=>∃H' rv',zau (zbo RR lineV (.pointer (some ⟨p3,0,none⟩)) (.pointer (some ⟨p,0,none⟩))) [] H=some (.ret,[W0 (.tuple #[zcd 3,lineV])],H')∧(H'.get p1=H.get p1∧H'.get p3=some (.cells [rv'] true)∧H'.get p5=H.get p5)∧Frm (B ≤ ·) H H'
  |some l=>∃H' rv' wv',zau (zbo RR lineV (.pointer (some ⟨p3,0,none⟩)) (.pointer (some ⟨p,0,none⟩))) [] H=some (.exit 2,[],H')∧LS B H' p1 p3 p5 st f g p lim lv lines L K sl tv ts rv' (rs++l) wv' []∧Frm (B ≤ ·) H H'
 |[],H,rv,rs,wv,h,hl=>by
  have hw:=fun (α:Type) (k:Value→Option α)=>zbi h.rd.rd (0+1) wv rfl k;have this:zbo RR lineV (.pointer (some ⟨p3,0,none⟩)) (.pointer (some ⟨p,0,none⟩)) [] H=some (.exit 2,[],H):=by
   unfold zbo;have h1:¬(((([]:List (List UInt8)).length:Nat):Int)>0):=by decide
   simp only[zbA,zaK,hw,h.rd.wd.len,zb8,h1,decide_false,zad,s_br,Bool.false_eq_true,if_false]
  refine⟨H,rv,wv,by rw[zah,this];rfl,by rw[append_nil];exact h,Frm.refl _ _⟩
 |w::r,H,rv,rs,wv,h,hl=>by
  have hw:=fun (α:Type) (k:Value→Option α)=>zbi h.rd.rd (0+1) wv rfl k;have h1:((((w::r).length:Nat):Int)>0):=by rw[length_cons];omega
  have hr3:=fun (α:Type) (k:Value→Option α)=>zbi h.b3 0 rv rfl k;have hn:=h.rd.part h.laid (Nat.le_trans h.gB (h.reg.lo 5 p rfl)) h.tv (fun q=>by have:=h.reg.ap 5 6 p rfl q;omega);rw[length_cons]at hl;unfold zdF;cases hp:zkG ts (w::r) with
  |none=>
   rw[hp]at hn;obtain⟨H1,a1,a2⟩:=hn;have k':Frm (InR [5] (LRg p1 p3 p5 st f g p sl lv tv rv wv)) H H1:=a2.mono fun j q=>.inl ⟨5,by simp,q⟩;have o:∀b j,b∉[5]→LRg p1 p3 p5 st f g p sl lv tv rv wv b j→H1.get j=H.get j:=fun b j hb hj=>k'.same j (h.reg.lt b j hj) (h.off [5] b hb hj);have this:zbo RR lineV (.pointer (some ⟨p3,0,none⟩)) (.pointer (some ⟨p,0,none⟩)) [] H=some (.ret,[W0 (.tuple #[zcd 3,lineV])],H1):=by unfold zbo;simp only[zbA,zaK,hw,h.rd.wd.len,zb8,h1,decide_true,zad,s_br,if_true,hr3];rw[zbM a1]
   exact⟨H1,rv,by rw[zah,this];rfl,⟨o 0 p1 (by decide) rfl,by rw[o 1 p3 (by decide) rfl];exact h.b3,o 2 p5 (by decide) rfl⟩,h.up k'⟩
  |some t=>
   rw[hp]at hn;obtain⟨H1,wv1,a1,a2,a3,a4⟩:=hn;have h2:=h.read a4 a2 fun j q=>.inl (a3 j q);obtain⟨rv2,H2,b1,b2,b3,b4⟩:=h2.root (by omega) t 0;have this:zbo RR lineV (.pointer (some ⟨p3,0,none⟩)) (.pointer (some ⟨p,0,none⟩)) [] H=some (.next,[],H2):=by unfold zbo;simp only[zbA,zaK,hw,h.rd.wd.len,zb8,h1,decide_true,zad,s_br,if_true,hr3];rw[zbL a1,zko (zlv h2.b3 0 rv rfl),b1]
   have f2:Frm (B ≤ ·) H H2:=(h.up (S:=[5]) (a4.mono fun j q=>.inl ⟨5,by simp,q⟩)).trans (h2.up b3) fun j q=>.inl q;have back2:∀{H':Hp},Frm (B ≤ ·) H2 H'→Frm (B ≤ ·) H H':=fun k=>f2.trans k fun j q=>.inl q;have ih:=zjp lineV r H2 rv2 (rs++[t]) wv1 b2 (by rw[length_append];simp;omega);dsimp only;have hk1:H2.get p1=H.get p1:=by rw[b2.b1,h.b1]
   have hk5:H2.get p5=H.get p5:=by rw[b2.b5,h.b5]
   cases hq:zdF ts r with
   |none=>
    rw[hq]at ih;obtain⟨H3,rv3,c1,⟨c2,c3,c4⟩,c5⟩:=ih;refine⟨H3,rv3,?_,⟨c2.trans hk1,c3,c4.trans hk5⟩,back2 c5⟩;rw[zah,this];exact c1
   |some l=>
    rw[hq]at ih;obtain⟨H3,rv3,wv3,c1,c2,c5⟩:=ih;refine⟨H3,rv3,wv3,?_,?_,back2 c5⟩
    ·rw[zah,this];exact c1
    ·rw[append_assoc]at c2;exact c2
theorem words_sh{l:List UInt8}(hl:l.length≤2^40):∀w∈zbN l,w.length≤2^40:=fun w hw=>by
 unfold zbN at hw;obtain⟨q,_,rfl⟩:=mem_map.1 hw;have h:(zdp l q).length≤l.length:=by unfold zdp;rw[length_drop,length_take];omega
 omega
section
variable {B:Nat}{H H':Hp}{p1 p3 p5 st f g p:Nat}{lim:Int}{lv:Value}{lines:List (List UInt8)}{L:List Nd}{K:List (ByteArray×Int)}{sl tv:Value}{ts:List Int}{rv:Value}{rs:List Int}{wv:Value}{ws:List (List UInt8)}
theorem LS.words(h:LS B H p1 p3 p5 st f g p lim lv lines L K sl tv ts rv rs wv ws){l:List UInt8}(hl:l.length≤2^40) :
  ∃v H1 H2,RR AG [str l,spF] H=some (v,H1)∧(∀(α:Type) (k:Hp→Option α),zas 1 H1 (.pointer (some ⟨p,0+1,none⟩)) v k=k H2)∧LS B H2 p1 p3 p5 st f g p lim lv lines L K sl tv ts rv rs v (zbN l)∧Frm (B ≤ ·) H H2:=by
 obtain⟨v,H1,a1,a2,a3,a4⟩:=c_fields l hl H;have g1:H1.get p=some (.cells [.pointer (some ⟨st,0,none⟩),wv,tv] true):=by rw[a3.same p h.rd.pl fun q=>q];exact h.rd.rd
 let H2:=H1.set p (some (.cells [.pointer (some ⟨st,0,none⟩),v,tv] true))
 have f2:Frm (· = p) H1 H2:=zfm _ _ _ _ rfl;have k':Frm (· = p) H H2:=(a3.mono fun j q=>q.elim).trans f2 fun j q=>.inl q;have hvp:¬Id v p:=fun q=>by have:=a4 p q;have:=h.rd.pl;omega
 have hr:RdS H2 p (.pointer (some ⟨st,0,none⟩)) v tv (zbN l):=⟨by show (H1.set p _).get p=_;rw[get_set,if_pos rfl],(Vec.wds a2).keep f2 fun j hj e=>hvp (by rw[e]at hj;exact hj),hvp,Nat.lt_of_lt_of_le h.rd.pl k'.next,words_sh hl⟩
 have h2:=h.read k' hr fun j hj=>.inr ⟨a4 j hj,Nat.lt_of_lt_of_le (a2.lt hj) f2.next⟩;exact⟨v,H1,H2,a1,fun α k=>zey g1 (zdq a2).1 (zdq a2).2 (by show 1<3;decide) k,h2,h.up (S:=[5]) (k'.mono fun j q=>.inl ⟨5,by simp,q⟩)⟩
end
def zg0:List UInt8:=[114,111,111,116,115]
def zni(ws:List (List UInt8))(ts:List Int)(L:List Nd):Option Nd:=match numF ws with
 |none=>none
 |some v=>if v=((ts.length+1:Nat):Int) then zpb ws.tail ts L else none
def Gone(H:Hp)(p1 p3 p5 st:Nat):Prop:=H.get p1=some (.cells [.pointer (some ⟨st,0,none⟩)] true)∧(∃rv,H.get p3=some (.cells [rv] true))∧H.get p5=some (.cells [.int .i64 0] true)
section
variable {B:Nat}{H H':Hp}{p1 p3 p5 st f g p:Nat}{lim:Int}{lv:Value}{lines:List (List UInt8)}{L:List Nd}{K:List (ByteArray×Int)}{sl tv:Value}{ts:List Int}{rv:Value}{rs:List Int}{wv:Value}{ws:List (List UInt8)}
theorem LS.gone(h:LS B H p1 p3 p5 st f g p lim lv lines L K sl tv ts rv rs wv ws):Gone H p1 p3 p5 st:=⟨h.b1,⟨rv,h.b3⟩,h.b5⟩
theorem LS.goneF(h:LS B H p1 p3 p5 st f g p lim lv lines L K sl tv ts rv rs wv ws){S:List Nat}(k:Frm (InR S (LRg p1 p3 p5 st f g p sl lv tv rv wv)) H H')(h0:0∉S)(h1:1∉S)(h2:2∉S):Gone H' p1 p3 p5 st:=by have o:∀b j,b∉S→LRg p1 p3 p5 st f g p sl lv tv rv wv b j→H'.get j=H.get j:=fun b j hb hj=>k.same j (h.reg.lt b j hj) (h.off S b hb hj);exact⟨by rw[o 0 p1 h0 rfl];exact h.b1,⟨rv,by rw[o 1 p3 h1 rfl];exact h.b3⟩,by rw[o 2 p5 h2 rfl];exact h.b5⟩
def StepF(B:Nat)(H:Hp)(p1 p3 p5 st:Nat)(e:Int)(i:Nat)(X:Option Outc):Prop:=∃H',X=some (.ret,[W0 (.tuple #[zcd e,.int .i64 ((i+1:Nat):Int)])],H')∧Gone H' p1 p3 p5 st∧Frm (B ≤ ·) H H'
theorem zor(h:LS B H p1 p3 p5 st f g p lim lv lines L K sl tv ts rv rs wv ws){i:Nat}{l:List UInt8}(hi:lines[i]?=some l)(hl:l.length≤2^40)(hn:lines.length≤2^40)(x0:Value)(en:Bool)(hb:en=true∨zbN l=[]) :
  StepF B H p1 p3 p5 st 3 i (zaW RR (.int .i64 (lines.length:Int)) (.pointer (some ⟨p3,0,none⟩)) (.pointer (some ⟨p,0,none⟩)) [lv] [x0,.bool en,.int .i64 (i:Int)] H):=by
 have hlt:i<lines.length:=(List.getElem?_eq_some_iff.1 hi).1;obtain⟨y,hy,⟨rest,hg⟩,hix⟩:=h.lin.ix hlt
 have hld:=fun (α:Type) (k:Value→Option α)=>zbi hg (i*1) (str l) (by
  rw[Nat.mul_one,List.getElem?_append_left (by rw[length_map];exact hlt),List.getElem?_map,hi];rfl) k
 obtain⟨v,H1,H2,a1,a2,a3,a4⟩:=h.words hl;have hinc:IntKind.i64.wrap ((i:Int)+1)=((i+1:Nat):Int):=w64 (by omega) (by omega);have h1:((i:Int)<(lines.length:Int)):=by omega
 have hw:=fun (α:Type) (k:Value→Option α)=>zbi a3.rd.rd (0+1) v rfl k;have a1':RR AG [str l,.func (.func Az) #[] #[]] H=some (v,H1):=a1;refine⟨H2,?_,a3.gone,a4⟩;unfold zaW;simp only[qg0,qg1,zbh,zad,s_br,h1,decide_true,if_true,hix,hld,zaU,hinc,zag a1',zbA,zaK,a2];cases en with
 |true=>
  simp only[if_true,zb9];rfl
 |false=>
  have he:zbN l=[]:=by
   rcases hb with q|q
   ·cases q
   ·exact q
  have hz:(((zbN l).length:Int)=0):=by rw[he];rfl
  simp only[Bool.false_eq_true,if_false,hw,a3.rd.wd.len,zaZ,hz,decide_true,zad,s_br,if_true,zb9];rfl
theorem line_ok(h:LS B H p1 p3 p5 st f g p lim lv lines L K sl tv ts rv rs wv ws){i:Nat}{l:List UInt8}(hi:lines[i]?=some l)(hl:l.length≤2^40)(hn:lines.length≤2^40)(hk:ts.length=i)(hR:zjf L)(x0:Value){w0:List UInt8}{r:List (List UInt8)}(hw:zbN l=w0::r)(hr:rs.length+r.length≤2^40){X:Option Outc}
  (hX:zaW RR (.int .i64 (lines.length:Int)) (.pointer (some ⟨p3,0,none⟩)) (.pointer (some ⟨p,0,none⟩)) [lv] [x0,.bool false,.int .i64 (i:Int)] H=X) :
  (w0=zg0→match zdF ts r with
   |none=>StepF B H p1 p3 p5 st 3 i X
   |some q=>∃H' rv' wv',X=some (.next,[.int .i64 ((i+1:Nat):Int),.bool true,.int .i64 ((i+1:Nat):Int)],H')∧LS B H' p1 p3 p5 st f g p lim lv lines L K sl tv ts rv' (rs++q) wv' []∧Frm (B ≤ ·) H H') ∧
  (w0≠zg0→match zni (w0::r) ts L with
   |none=>StepF B H p1 p3 p5 st 3 i X
   |some m=>((mkR lim L K m).2.1≠0→StepF B H p1 p3 p5 st (mkR lim L K m).2.1 i X) ∧
    ((mkR lim L K m).2.1=0→∃H' sl' tv' wv',X=some (.next,[.int .i64 ((i+1:Nat):Int),.bool false,.int .i64 ((i+1:Nat):Int)],H')∧LS B H' p1 p3 p5 st f g p lim lv lines (mkR lim L K m).2.2.1 (mkR lim L K m).2.2.2 sl' tv' (ts++[(mkR lim L K m).1]) rv rs wv' []∧Frm (B ≤ ·) H H')):=by
 have hlt:i<lines.length:=(List.getElem?_eq_some_iff.1 hi).1;obtain⟨y,hy,⟨rest,hg⟩,hix⟩:=h.lin.ix hlt
 have hld:=fun (α:Type) (k:Value→Option α)=>zbi hg (i*1) (str l) (by
  rw[Nat.mul_one,List.getElem?_append_left (by rw[length_map];exact hlt),List.getElem?_map,hi];rfl) k
 obtain⟨v,H1,H2,a1,a2,a3,a4⟩:=h.words hl;rw[hw]at a3;have hinc:IntKind.i64.wrap ((i:Int)+1)=((i+1:Nat):Int):=w64 (by omega) (by omega);have h1:((i:Int)<(lines.length:Int)):=by omega
 have hwv:=fun (α:Type) (k:Value→Option α)=>zbi a3.rd.rd (0+1) v rfl k;have a1':RR AG [str l,.func (.func Az) #[] #[]] H=some (v,H1):=a1;obtain⟨v2,hd1,_,_,_⟩:=a3.rd.wd.head;have hq:∀{α:Type} (k:Value→Option α),pBin PP .eql Ac (str w0) (.string ⟨#[114,111,111,116,115]⟩) k=k (.bool (w0==zg0)):=fun k=>zfs Ac w0 zg0 k;have hz:¬((((w0::r).length:Nat):Int)=0):=by rw[length_cons];omega
 unfold zaW at hX;simp only[qg0,qg1,zbh,zad,s_br,h1,decide_true,if_true,hix,hld,zaU,hinc,zag a1',zbA,zaK,a2,Bool.false_eq_true,if_false,hwv,a3.rd.wd.len,zaZ,hz,decide_false,zan,za3,hd1,hq]at hX;refine⟨fun hroot=>?_,fun hroot=>?_⟩
 ·have hb:(w0==zg0)=true:=by rw[beq_iff_eq];exact hroot
  rw[if_pos hb]at hX;obtain⟨H3,wv3,b1,b2,b3,b4⟩:=a3.rd.next;have h3:=a3.read b4 b2 fun j q=>.inl (b3 j q);have hf3:Frm (B ≤ ·) H H3:=a4.trans (a3.up (S:=[5]) (b4.mono fun j q=>.inl ⟨5,by simp,q⟩)) fun j q=>.inl q;rw[zbL b1]at hX;have hlp:=zjp (.int .i64 ((i+1:Nat):Int)) r H3 rv rs wv3 h3 hr;cases hq2:zdF ts r with
  |none=>
   rw[hq2]at hlp;obtain⟨H4,rv4,c1,⟨c2,c3,c4⟩,c5⟩:=hlp;rw[c1]at hX;exact⟨H4,hX.symm,⟨by rw[c2];exact h3.b1,⟨rv4,c3⟩,by rw[c4];exact h3.b5⟩,hf3.trans c5 fun j q=>.inl q⟩
  |some q=>
   rw[hq2]at hlp;obtain⟨H4,rv4,wv4,c1,c2,c5⟩:=hlp;rw[c1,zan,za6,zaC]at hX;exact⟨H4,rv4,wv4,hX.symm,c2,hf3.trans c5 fun j q=>.inl q⟩
 ·have hb:(w0==zg0)=false:=by rw[beq_eq_false_iff_ne];exact hroot
  rw[hb,if_neg (by decide)]at hX;have hp:PP.globals.size≤p:=Nat.le_trans a3.gB (a3.reg.lo 5 p rfl);have hnum:=a3.rd.number a3.laid hp;unfold zni;cases hf:numF (w0::r) with
  |none=>
   rw[hf]at hnum;obtain⟨H3,b1,b2⟩:=hnum;rw[zbM b1]at hX;have k':Frm (InR [5] (LRg p1 p3 p5 st f g p sl lv tv rv v)) H2 H3:=b2.mono fun j q=>.inl ⟨5,by simp,q⟩;exact⟨H3,hX.symm,a3.goneF k' (by decide) (by decide) (by decide),a4.trans (a3.up k') fun j q=>.inl q⟩
  |some z=>
   rw[hf]at hnum;obtain⟨H3,wv3,b1,b2,b3,b4⟩:=hnum;have k3:Frm (InR [5] (LRg p1 p3 p5 st f g p sl lv tv rv v)) H2 H3:=b4.mono fun j q=>.inl ⟨5,by simp,q⟩;have h3:=a3.read b4 b2 fun j q=>.inl (b3 j q);have hf3:Frm (B ≤ ·) H H3:=a4.trans (a3.up k3) fun j q=>.inl q;rw[zbL b1]at hX;dsimp only;by_cases hzi:z=((ts.length+1:Nat):Int)
   ·rw[if_pos hzi];have hzi':z=((i+1:Nat):Int):=by rw[hzi,hk]
    have e0:¬(((i+1:Nat):Int)≠((i+1:Nat):Int)):=fun q=>q rfl;rw[hzi']at hX;simp only[zba,e0,decide_false,zad,s_br,Bool.false_eq_true,if_false]at hX;have hnode:=c_node h3.rd hp h3.laid h3.store hR h3.tv (fun q=>by have:=h3.reg.ap 5 6 p rfl q;omega) (fun q=>by have:=h3.reg.ap 5 3 p rfl q;omega) fun j hj q=>by have:=h3.reg.ap 8 3 j hj q;omega
    cases hm:zpb (w0::r).tail ts L with
    |none=>
     rw[hm]at hnode;obtain⟨H4,c1,c2⟩:=hnode;rw[zbM c1]at hX;have k4:Frm (InR [3,5] (LRg p1 p3 p5 st f g p sl lv tv rv wv3)) H3 H4:=c2.mono fun j q=>.inl (by rcases q with q|q;exact⟨5,by simp,q⟩;exact⟨3,by simp,q⟩);exact⟨H4,hX.symm,h3.goneF k4 (by decide) (by decide) (by decide),hf3.trans (h3.up k4) fun j q=>.inl q⟩
    |some m=>
     rw[hm]at hnode;dsimp only;refine⟨fun hne=>?_,fun heq=>?_⟩
     ·obtain⟨H4,c1,c2⟩:=hnode.1 hne;rw[zbM c1]at hX;have k4:Frm (InR [3,5] (LRg p1 p3 p5 st f g p sl lv tv rv wv3)) H3 H4:=c2.mono fun j q=>.inl (by rcases q with q|q;exact⟨5,by simp,q⟩;exact⟨3,by simp,q⟩);exact⟨H4,hX.symm,h3.goneF k4 (by decide) (by decide) (by decide),hf3.trans (h3.up k4) fun j q=>.inl q⟩
     ·obtain⟨H4,wv4,sl4,c1,c2,c3,c4,c5,c6⟩:=hnode.2 heq;rw[zbL c1]at hX;have k4:Frm (InR [3,5] (LRg p1 p3 p5 st f g p sl lv tv rv wv3)) H3 H4:=c4.mono fun j q=>.inl (by rcases q with q|q;exact⟨5,by simp,q⟩;exact⟨3,by simp,q⟩);have h4:=h3.grow c4 c2 c6 c3 c5;obtain⟨tv5,H5,d1,d2,d3,d4⟩:=h4.term (by omega) (mkR lim L K m).1 0;have htv:=fun (α:Type) (k:Value→Option α)=>zbi h4.rd.rd (0+2) tv rfl k;simp only[htv,d1]at hX;exact⟨H5,sl4,tv5,wv4,hX.symm,d2,(hf3.trans (h3.up k4) fun j q=>.inl q).trans (h4.up d3) fun j q=>.inl q⟩
   ·rw[if_neg hzi];have hzi':z≠((i+1:Nat):Int):=fun e=>hzi (by rw[e,hk]);simp only[zba,hzi',ne_eq,not_false_eq_true,decide_true,zad,s_br,if_true,zb9]at hX;exact⟨H3,hX.symm,a3.goneF k3 (by decide) (by decide) (by decide),hf3⟩
end
inductive LdR where
 |bad (line:Nat) (e:Int)
 |good (L:List Nd) (K:List (ByteArray×Int)) (rs:List Int)
def zfD(lim:Int):List (List UInt8)→Nat→List Nd→List (ByteArray×Int)→List Int→LdR
 |[],k,_,_,_=>.bad (k+1) 3
 |l::rest,k,L,K,ts=>match zbN l with
  |[]=>.bad (k+1) 3
  |w0::r=>if w0=zg0 then (match zdF ts r with
    |none=>.bad (k+1) 3
    |some q=>match rest with
     |[]=>.good L K q
     |_::_=>.bad (k+2) 3)
   else match zni (w0::r) ts L with
    |none=>.bad (k+1) 3
    |some m=>if (mkR lim L K m).2.1≠0 then .bad (k+1) (mkR lim L K m).2.1 else zfD lim rest (k+1) (mkR lim L K m).2.2.1 (mkR lim L K m).2.2.2 (ts++[(mkR lim L K m).1])
theorem mk_le{lim:Int}{L:List Nd}{K:List (ByteArray×Int)}(n:Nd):(mkR lim L K n).2.2.1.length≤L.length+1:=by
 by_cases h0:(mkR lim L K n).2.1=0
 ·obtain⟨_,⟨q,_,e⟩|⟨_,_,e⟩⟩:=zis h0<;>rw[e]<;>simp
 ·rw[mk_no h0];simp
def zka(B:Nat)(H:Hp)(p1 p3 p5 st f g p:Nat)(lim:Int)(lv:Value)(lines:List (List UInt8))(X:Option Outc):LdR→Prop
 |.bad ln e=>∃H',(X=some (.ret,[W0 (.tuple #[zcd e,.int .i64 (ln:Int)])],H')∨(∃a b,X=some (.exit 0,[a,.bool false,b],H')∧e=3∧ln=lines.length+1))∧Gone H' p1 p3 p5 st∧Frm (B ≤ ·) H H'
 |.good L K q=>∃H' a b sl tv rv wv ts,X=some (.exit 0,[a,.bool true,b],H')∧LS B H' p1 p3 p5 st f g p lim lv lines L K sl tv ts rv q wv []∧Frm (B ≤ ·) H H'
theorem zka.of{B:Nat}{H H1:Hp}{p1 p3 p5 st f g p:Nat}{lim:Int}{lv:Value}{lines:List (List UInt8)}{X:Option Outc}{r:LdR}(h:zka B H1 p1 p3 p5 st f g p lim lv lines X r)(k:Frm (B ≤ ·) H H1):zka B H p1 p3 p5 st f g p lim lv lines X r:=by
 cases r with
 |bad ln e=>obtain⟨H',h1,h2,h3⟩:=h;exact⟨H',h1,h2,k.trans h3 fun j q=>.inl q⟩
 |good L K q=>obtain⟨H',a,b,sl,tv,rv,wv,ts,h1,h2,h3⟩:=h;exact⟨H',a,b,sl,tv,rv,wv,ts,h1,h2,k.trans h3 fun j q=>.inl q⟩
theorem zjT{B:Nat}{p1 p3 p5 st f g p:Nat}{lim:Int}{lv:Value}{lines:List (List UInt8)}(hn:lines.length≤2^38)(hsh:∀l∈lines,l.length≤2^38):∀(rest:List (List UInt8)) (i:Nat) (H:Hp) (x0:Value) (L:List Nd) (K:List (ByteArray×Int)) (sl tv:Value) (ts:List Int) (rv wv:Value) (ws:List (List UInt8)),
  lines.drop i=rest→i≤lines.length→ts.length=i→L.length≤i→Inv lim L→LS B H p1 p3 p5 st f g p lim lv lines L K sl tv ts rv [] wv ws →
  zka B H p1 p3 p5 st f g p lim lv lines (zau (zaW RR (.int .i64 (lines.length:Int)) (.pointer (some ⟨p3,0,none⟩)) (.pointer (some ⟨p,0,none⟩)) [lv]) [x0,.bool false,.int .i64 (i:Int)] H) (zfD lim rest i L K ts)
 |[],i,H,x0,L,K,sl,tv,ts,rv,wv,ws,hr,hi,hk,hL,hI,h=>by
  have hil:i=lines.length:=by have:=congrArg List.length hr;rw[length_drop]at this;simp at this;omega
  have this:zaW RR (.int .i64 (lines.length:Int)) (.pointer (some ⟨p3,0,none⟩)) (.pointer (some ⟨p,0,none⟩)) [lv] [x0,.bool false,.int .i64 (i:Int)] H=some (.exit 0,[x0,.bool false,.int .i64 (i:Int)],H):=by
   unfold zaW;have h1:¬((i:Int)<(lines.length:Int)):=by omega
   simp only[qg0,qg1,zbh,zad,s_br,h1,decide_false,Bool.false_eq_true,if_false]
  refine⟨H,.inr ⟨x0,.int .i64 (i:Int),by rw[zah,this];rfl,rfl,by rw[hil]⟩,h.gone,Frm.refl _ _⟩
 |l::rest,i,H,x0,L,K,sl,tv,ts,rv,wv,ws,hr,hi,hk,hL,hI,h=>by
  have hlt:i<lines.length:=by have:=congrArg List.length hr;rw[length_drop]at this;simp at this;omega
  have hget:lines[i]?=some l:=by have:=congrArg (fun x=>x[0]?) hr;simpa using this
  have hr2:lines.drop (i+1)=rest:=by rw[←drop_drop,hr];rfl
  have hll:l.length≤2^38:=hsh l (mem_of_getElem? hget);have hR:zjf L:=⟨hI.w,by omega⟩
  unfold zfD;cases hw:zbN l with
  |nil=>
   obtain⟨H',h1,h2,h3⟩:=zor h hget (by omega) (by omega) x0 false (.inr hw);exact⟨H',.inl (by rw[zah,h1];rfl),h2,h3⟩
  |cons w0 r=>
   have hwl:r.length≤l.length:=by
    have h1:(zbN l).length≤l.length+1:=by unfold zbN;rw[length_map];exact zgy l 0 none
    rw[hw,length_cons]at h1;omega
   have hline:=line_ok h hget (by omega) (by omega) hk hR x0 hw (by show 0+r.length≤_;omega) rfl;dsimp only;by_cases h0:w0=zg0
   ·rw[if_pos h0];have h1:=hline.1 h0;cases hq:zdF ts r with
    |none=>
     rw[hq]at h1;obtain⟨H',a1,a2,a3⟩:=h1;exact⟨H',.inl (by rw[zah,a1];rfl),a2,a3⟩
    |some q=>
     rw[hq]at h1;obtain⟨H',rv',wv',a1,a2,a3⟩:=h1;have hloop:zau (zaW RR (.int .i64 (lines.length:Int)) (.pointer (some ⟨p3,0,none⟩)) (.pointer (some ⟨p,0,none⟩)) [lv]) [x0,.bool false,.int .i64 (i:Int)] H=zau (zaW RR (.int .i64 (lines.length:Int)) (.pointer (some ⟨p3,0,none⟩)) (.pointer (some ⟨p,0,none⟩)) [lv]) [.int .i64 ((i+1:Nat):Int),.bool true,.int .i64 ((i+1:Nat):Int)] H':=by
      conv=>lhs;rw[zah,a1]
      rfl
     rw[hloop];cases rest with
     |nil=>
      have hil:i+1=lines.length:=by have:=congrArg List.length hr2;rw[length_drop]at this;simp at this;omega
      have this:zaW RR (.int .i64 (lines.length:Int)) (.pointer (some ⟨p3,0,none⟩)) (.pointer (some ⟨p,0,none⟩)) [lv] [.int .i64 ((i+1:Nat):Int),.bool true,.int .i64 ((i+1:Nat):Int)] H'=some (.exit 0,[.int .i64 ((i+1:Nat):Int),.bool true,.int .i64 ((i+1:Nat):Int)],H'):=by
       unfold zaW;have h1:¬(((i+1:Nat):Int)<(lines.length:Int)):=by omega
       simp only[qg0,qg1,zbh,zad,s_br,h1,decide_false,Bool.false_eq_true,if_false]
      exact⟨H',_,_,sl,tv,rv',wv',ts,by rw[zah,this];rfl,a2,a3⟩
     |cons l2 rest2=>
      have hget2:lines[i+1]?=some l2:=by have:=congrArg (fun x=>x[0]?) hr2;simpa using this
      have hll2:l2.length≤2^38:=hsh l2 (mem_of_getElem? hget2);obtain⟨H2,b1,b2,b3⟩:=zor a2 hget2 (by omega) (by omega) (.int .i64 ((i+1:Nat):Int)) true (.inl rfl);exact⟨H2,.inl (by rw[zah,b1];rfl),b2,a3.trans b3 fun j q=>.inl q⟩
   ·rw[if_neg h0];have h1:=hline.2 h0;cases hm:zni (w0::r) ts L with
    |none=>
     rw[hm]at h1;obtain⟨H',a1,a2,a3⟩:=h1;exact⟨H',.inl (by rw[zah,a1];rfl),a2,a3⟩
    |some m=>
     rw[hm]at h1;dsimp only;by_cases he:(mkR lim L K m).2.1=0
     ·rw[if_neg (fun q=>q he)];obtain⟨H',sl',tv',wv',a1,a2,a3⟩:=h1.2 he;have hloop:zau (zaW RR (.int .i64 (lines.length:Int)) (.pointer (some ⟨p3,0,none⟩)) (.pointer (some ⟨p,0,none⟩)) [lv]) [x0,.bool false,.int .i64 (i:Int)] H=zau (zaW RR (.int .i64 (lines.length:Int)) (.pointer (some ⟨p3,0,none⟩)) (.pointer (some ⟨p,0,none⟩)) [lv]) [.int .i64 ((i+1:Nat):Int),.bool false,.int .i64 ((i+1:Nat):Int)] H':=by
       conv=>lhs;rw[zah,a1]
       rfl
      rw[hloop];have hle:=mk_le (lim:=lim) (L:=L) (K:=K) m;exact(zjT hn hsh rest (i+1) H' _ _ _ sl' tv' _ rv wv' [] hr2 hlt (by rw[length_append,hk];rfl) (by omega) (mk_inv hI) a2).of a3
     ·rw[if_pos he];obtain⟨H',a1,a2,a3⟩:=h1.1 he;exact⟨H',.inl (by rw[zah,a1];rfl),a2,a3⟩
structure T3(H:Hp)(p1 p3 p5:Nat)(a b c:Value):Prop where
 a1:H.get p1=some (.cells [a] true)
 a3:H.get p3=some (.cells [b] true)
 a5:H.get p5=some (.cells [c] true)
 n13:p1≠p3
 n15:p1≠p5
 n35:p3≠p5
def OneV(v:Value):Prop:=zab v=[v]∧one v=true
section
variable {H:Hp}{p1 p3 p5:Nat}{a b c v:Value}
theorem T3.s1(h:T3 H p1 p3 p5 a b c)(hv:OneV v):∃H',(∀(α:Type) (k:Hp→Option α),zas 1 H (.pointer (some ⟨p1,0,none⟩)) v k=k H')∧T3 H' p1 p3 p5 v b c∧Frm (· = p1) H H':=
 ⟨_,fun α k=>zey h.a1 hv.1 hv.2 (by show 0<1;decide) k,⟨by rw[get_set,if_pos rfl];rfl,by rw[get_set,if_neg (Ne.symm h.n13)];exact h.a3,by rw[get_set,if_neg (Ne.symm h.n15)];exact h.a5,h.n13,h.n15,h.n35⟩,zfm _ _ _ _ rfl⟩
theorem T3.s3(h:T3 H p1 p3 p5 a b c)(hv:OneV v):∃H',(∀(α:Type) (k:Hp→Option α),zas 1 H (.pointer (some ⟨p3,0,none⟩)) v k=k H')∧T3 H' p1 p3 p5 a v c∧Frm (· = p3) H H':=
 ⟨_,fun α k=>zey h.a3 hv.1 hv.2 (by show 0<1;decide) k,⟨by rw[get_set,if_neg h.n13];exact h.a1,by rw[get_set,if_pos rfl];rfl,by rw[get_set,if_neg (Ne.symm h.n35)];exact h.a5,h.n13,h.n15,h.n35⟩,zfm _ _ _ _ rfl⟩
theorem T3.s5(h:T3 H p1 p3 p5 a b c)(hv:OneV v):∃H',(∀(α:Type) (k:Hp→Option α),zas 1 H (.pointer (some ⟨p5,0,none⟩)) v k=k H')∧T3 H' p1 p3 p5 a b v∧Frm (· = p5) H H':=
 ⟨_,fun α k=>zey h.a5 hv.1 hv.2 (by show 0<1;decide) k,⟨by rw[get_set,if_neg h.n15];exact h.a1,by rw[get_set,if_neg h.n35];exact h.a3,by rw[get_set,if_pos rfl];rfl,h.n13,h.n15,h.n35⟩,zfm _ _ _ _ rfl⟩
theorem T3.l1(h:T3 H p1 p3 p5 a b c){α:Type}(k:Value→Option α):zak 1 false H (.pointer (some ⟨p1,0,none⟩)) k=k a:=zbi h.a1 0 a rfl k
theorem T3.l3(h:T3 H p1 p3 p5 a b c){α:Type}(k:Value→Option α):zak 1 false H (.pointer (some ⟨p3,0,none⟩)) k=k b:=zbi h.a3 0 b rfl k
theorem T3.l5(h:T3 H p1 p3 p5 a b c){α:Type}(k:Value→Option α):zak 1 false H (.pointer (some ⟨p5,0,none⟩)) k=k c:=zbi h.a5 0 c rfl k
theorem end_ld{fr:Fr}{t1 t2 t3:TypeId}{lv:Value}(h:T3 H p1 p3 p5 a b c)(k:List Value→Option (Value×Hp))(h4:getS fr 4=.val (.pointer (some ⟨p1,0,none⟩)))(h5:getS fr 5=.val (.pointer (some ⟨p3,0,none⟩)))(h7:getS fr 7=.val (.pointer (some ⟨p5,0,none⟩)))
  (y1:∀k:Nat→Bool→Option (Value×Hp),tyC PP t1 k=k 1 false) (y2:∀k:Nat→Bool→Option (Value×Hp),tyC PP t2 k=k 1 false) (y3:∀k:Nat→Bool→Option (Value×Hp),tyC PP t3 k=k 1 false) :
  endL PP fr H [.cell 4 t1,.cell 5 t2,.tmp 6,.cell 7 t3] [lv] k=k [a,b,lv,c]:=by
 unfold endL;rw[y1,h4];unfold sV;dsimp only;rw[h.l1];unfold endL;rw[y2,h5];unfold sV;dsimp only;rw[h.l3];unfold endL;unfold endL;rw[y3,h7];unfold sV;dsimp only;rw[h.l5];rfl
theorem c_caught(h:T3 H p1 p3 p5 a b c)(e:Int):∃H',zcw RR (zcd e) (.pointer (some ⟨p1,0,none⟩)) (.pointer (some ⟨p3,0,none⟩)) (.pointer (some ⟨p5,0,none⟩)) H=some (.tuple #[],H') ∧
  T3 H' p1 p3 p5 (.pointer none) (.slice none 0 0) (.int .i64 e)∧Frm (fun j=>j=p1∨j=p3∨j=p5) H H':=by
 obtain⟨H1,a1,a2,a3⟩:=h.s1 (v:=.pointer none) ⟨rfl,rfl⟩;obtain⟨H2,b1,b2,b3⟩:=a2.s3 (v:=.slice none 0 0) ⟨rfl,rfl⟩;obtain⟨H3,c1,c2,c3⟩:=b2.s5 (v:=.int .i64 e) ⟨rfl,rfl⟩;refine⟨H3,?_,c2,((a3.mono fun j q=>.inl (.inl q)).trans (b3.mono fun j q=>.inl (.inr (.inl q))) fun j q=>.inl q).trans (c3.mono fun j q=>.inl (.inr (.inr q))) fun j q=>.inl q⟩;unfold zcw;have e1:∀{α:Type} (k:Value→Option α),zdu PP .eql BT (zcd e) k=k (.bool false):=fun k=>rfl;have e2:∀{α:Type} (k:Value→Option α),zfC PP Ad (zcd e) k=k (.agg #[.int .i64 e]):=fun k=>rfl;have e3:∀{α:Type} (k:List Value→Option α),zaN 1 [.int .i64 0] 0 (.agg #[.int .i64 e]) k=k [.int .i64 e]:=fun k=>rfl;have e4:∀{α:Type} (k:Value→Option α),zaj 1 false [.int .i64 e] 0 k=k (.int .i64 e):=fun k=>rfl;rw[e1,zad,s_br,if_neg (by decide),e2,e3,e4,a1,b1,c1]
theorem c_calm(x1 x2 x3:Value)(H:Hp):zcw RR .nilIface x1 x2 x3 H=some (.tuple #[],H):=rfl
end
def zcZ(l:List UInt8):List (List UInt8):=if (cutB 10 l).getD (l.count 10) []=[] then (cutB 10 l).take (l.count 10) else cutB 10 l
theorem s_wrap0{α:Type}(x:Value)(k kp:Value→Option α):zeN (W0 x) k kp=kp x:=rfl
theorem s_wrap1{α:Type}(x:Value)(k kp:Value→Option α):zeN (W1 x) k kp=k x:=rfl
theorem ziP:∀(l:List UInt8),∀x∈cutB 10 l,x.length≤l.length
 |[],x,hx=>by
  have:x=[]:=by simpa[cutB] using hx
  rw[this];exact Nat.le_refl _
 |b::r,x,hx=>by
  unfold cutB at hx;split at hx
  ·rcases mem_cons.1 hx with q|q
   ·rw[q];exact Nat.zero_le _
   ·have:=ziP r x q;rw[length_cons];omega
  ·split at hx
   ·rename_i h t e;rcases mem_cons.1 hx with q|q
    ·have:=ziP r h (by rw[e];exact mem_cons_self ..);rw[q,length_cons,length_cons];omega
    ·have:=ziP r x (by rw[e];exact mem_cons_of_mem _ q);rw[length_cons];omega
   ·have:x=[b]:=by simpa using hx
    rw[this,length_cons];simp
theorem bldRd(st:Nat){α:Type}(k:Value→Option α):zaE PP BV [(0,.pointer (some ⟨st,0,none⟩))] k=k (.agg #[.pointer (some ⟨st,0,none⟩),.slice none 0 0,.slice none 0 0]):=by
 have:zgt PP BV [(0,.pointer (some ⟨st,0,none⟩))]=some (.agg #[.pointer (some ⟨st,0,none⟩),.slice none 0 0,.slice none 0 0]):=by kernel_rfl
 unfold zaE;rw[this]
def LoadA(H:Hp)(lim:Int)(f:FuncId)(wr:Value→Value)(args:List Value):LdR→Prop
 |.bad ln e=>∃H',RR f args H=some (wr (.tuple #[.pointer none,.slice none 0 0,.int .i64 (ln:Int),.int .i64 e]),H')∧Frm (fun _=>False) H H'
 |.good L K q=>∃H' st fm gm sl rv,RR f args H=some (wr (.tuple #[.pointer (some ⟨st,0,none⟩),rv,.int .i64 0,.int .i64 0]),H')∧StF H' st lim L K sl fm gm∧Vec H' 1 rv q.length (i64s q)∧Frm (fun _=>False) H H' ∧
   (∀j,Foot st fm gm sl j→H.next≤j)∧(∀j,Id rv j→H.next≤j)∧(∀j,Id rv j→¬Foot st fm gm sl j)
theorem zka.fin{B:Nat}{H:Hp}{p1 p3 p5 st f g p:Nat}{lim:Int}{lv:Value}{lines:List (List UInt8)}{X:Option Outc}{r:LdR}(h:zka B H p1 p3 p5 st f g p lim lv lines X r)(hlv:∀{α:Type} (H:Hp) (k:Value→Option α),pLen .sl lv H k=k (.int .i64 (lines.length:Int)))
  (hn:lines.length≤2^38) (n13:p1≠p3) (n15:p1≠p5) (n35:p3≠p5) (b1:B≤p1) (b3:B≤p3) (b5:B≤p5) :
  match r with
  |.bad ln e=>∃H',(zaw X fun q121 l122 H123=>zaG q121 none
     (fun i124=>zax i124 0 (
     pLen .sl lv H123 fun v125=>
     pBin PP .add Aa v125 (.int .i64 1) fun v126=>
     pUn .not (l122.getD 1 undef) fun v127=>
     zaa v127 fun b128=>br b128
     (zaE PP Ad [(0,(.int .i64 3))] fun v129=>
     some ((W0 (.tuple #[(.iface Ad v129),v126])),H123))
     (zak 1 false H123 (.pointer (some ⟨p1,0,none⟩)) fun v130=>
     zak 1 false H123 (.pointer (some ⟨p3,0,none⟩)) fun v131=>
     zas 1 H123 (.pointer (some ⟨p1,0,none⟩)) v130 fun H132=>
     chk (Hp.rdP H132 (.pointer (some ⟨p3,0,none⟩)) 1 false=some v131) (
     zas 1 H132 (.pointer (some ⟨p3,0,none⟩)) v131 fun H133=>
     zas 1 H133 (.pointer (some ⟨p5,0,none⟩)) (.int .i64 0) fun H134=>
     zak 1 false H134 (.pointer (some ⟨p1,0,none⟩)) fun v135=>
     zak 1 false H134 (.pointer (some ⟨p3,0,none⟩)) fun v136=>
     zak 1 false H134 (.pointer (some ⟨p5,0,none⟩)) fun v137=>
     some ((W1 (.tuple #[v135,v136,(.int .i64 0),v137])),H134)))) (
     none))
     (some ((l122.headD undef),H123)))=some (W0 (.tuple #[zcd e,.int .i64 (ln:Int)]),H')∧(∃a b c,T3 H' p1 p3 p5 a b c)∧Frm (B ≤ ·) H H'
  |.good L K q=>∃H' sl rv,(zaw X fun q121 l122 H123=>zaG q121 none
     (fun i124=>zax i124 0 (
     pLen .sl lv H123 fun v125=>
     pBin PP .add Aa v125 (.int .i64 1) fun v126=>
     pUn .not (l122.getD 1 undef) fun v127=>
     zaa v127 fun b128=>br b128
     (zaE PP Ad [(0,(.int .i64 3))] fun v129=>
     some ((W0 (.tuple #[(.iface Ad v129),v126])),H123))
     (zak 1 false H123 (.pointer (some ⟨p1,0,none⟩)) fun v130=>
     zak 1 false H123 (.pointer (some ⟨p3,0,none⟩)) fun v131=>
     zas 1 H123 (.pointer (some ⟨p1,0,none⟩)) v130 fun H132=>
     chk (Hp.rdP H132 (.pointer (some ⟨p3,0,none⟩)) 1 false=some v131) (
     zas 1 H132 (.pointer (some ⟨p3,0,none⟩)) v131 fun H133=>
     zas 1 H133 (.pointer (some ⟨p5,0,none⟩)) (.int .i64 0) fun H134=>
     zak 1 false H134 (.pointer (some ⟨p1,0,none⟩)) fun v135=>
     zak 1 false H134 (.pointer (some ⟨p3,0,none⟩)) fun v136=>
     zak 1 false H134 (.pointer (some ⟨p5,0,none⟩)) fun v137=>
     some ((W1 (.tuple #[v135,v136,(.int .i64 0),v137])),H134)))) (
     none))
     (some ((l122.headD undef),H123)))=some (W1 (.tuple #[.pointer (some ⟨st,0,none⟩),rv,.int .i64 0,.int .i64 0]),H')∧T3 H' p1 p3 p5 (.pointer (some ⟨st,0,none⟩)) rv (.int .i64 0)∧StF H' st lim L K sl f g∧Vec H' 1 rv q.length (i64s q)∧Frm (B ≤ ·) H H' ∧
     (∀j,Foot st f g sl j→B≤j)∧(∀j,Id rv j→B≤j)∧(∀j,Id rv j→¬Foot st f g sl j):=by
 have w1:∀{H2 H3:Hp} {q:Nat},B≤q→Frm (· = q) H2 H3→Frm (B ≤ ·) H2 H3:=fun hq k=>k.mono fun j e=>.inl (by rw[e];exact hq);cases r with
 |bad ln e=>
  obtain⟨H',h1,⟨g1,⟨rv,g2⟩,g3⟩,h3⟩:=h;refine⟨H',?_,⟨_,_,_,g1,g2,g3,n13,n15,n35⟩,h3⟩;rcases h1 with rfl|⟨a,b,rfl,rfl,rfl⟩
  ·rfl
  ·rw[zan,za6,zaC,hlv];have hinc:IntKind.i64.wrap ((lines.length:Int)+1)=((lines.length+1:Nat):Int):=w64 (by omega) (by omega);rw[zaU,hinc];simp only[qg1,qg0,zbQ,zad,s_br,Bool.not_false,if_true,zb9]
 |good L K q=>
  obtain⟨H1,a,b,sl,tv,rv,wv,ts,rfl,h2,h3⟩:=h;have t1:T3 H1 p1 p3 p5 (.pointer (some ⟨st,0,none⟩)) rv (.int .i64 0):=⟨h2.b1,h2.b3,h2.b5,n13,n15,n35⟩
  obtain⟨H2,x1,x2,x3⟩:=t1.s1 (v:=.pointer (some ⟨st,0,none⟩)) ⟨rfl,rfl⟩;obtain⟨H3,y1,y2,y3⟩:=x2.s3 (v:=rv) (zdq h2.rv);obtain⟨H4,z1,z2,z3⟩:=y2.s5 (v:=.int .i64 0) ⟨rfl,rfl⟩;have hf:Frm (fun j=>j=p1∨j=p3∨j=p5) H1 H4:=((x3.mono fun j q=>.inl (.inl q)).trans (y3.mono fun j q=>.inl (.inr (.inl q))) fun j q=>.inl q).trans (z3.mono fun j q=>.inl (.inr (.inr q))) fun j q=>.inl q;have hr:=h2.reg;refine⟨H4,sl,rv,?_,z2,h2.store.keep (fun j hj=>hf.same j (h2.store.foot_lt hj) fun e=>?_) hf.next,h2.rv.keep hf fun j hj e=>?_,h3.trans (hf.mono fun j e=>.inl (by rcases e with e|e|e<;>rw[e]<;>assumption)) fun j e=>.inl e,fun j hj=>hr.lo 3 j hj,fun j hj=>hr.lo 7 j hj,fun j hj e=>by have:=hr.ap 7 3 j hj e;omega⟩
  ·rw[zan,za6,zaC,hlv,zaU];simp only[qg1,qg0,zbQ,zad,s_br,Bool.not_true,Bool.false_eq_true,if_false,t1.l1,t1.l3,x1];rw[zko (zlv x2.a3 0 rv rfl),y1,z1,z2.l1,z2.l3,z2.l5]
  ·rcases e with e|e|e
   ·have:=hr.ap 3 0 j hj e;omega
   ·have:=hr.ap 3 1 j hj e;omega
   ·have:=hr.ap 3 2 j hj e;omega
  ·rcases e with e|e|e
   ·have:=hr.ap 7 0 j hj e;omega
   ·have:=hr.ap 7 1 j hj e;omega
   ·have:=hr.ap 7 2 j hj e;omega
theorem cut_last(l:List UInt8):(cutB 10 l)[l.count 10]?=some ((cutB 10 l).getD (l.count 10) []):=by have h:=zgo 10 l;rw[getD_eq_getElem?_getD,List.getElem?_eq_getElem (by omega)];rfl
theorem zom(l:List UInt8):∀x∈zcZ l,x.length≤l.length:=fun x hx=>by
 unfold zcZ at hx;split at hx
 ·exact ziP l x (mem_of_mem_take hx)
 ·exact ziP l x hx
theorem zkR(l:List UInt8):(zcZ l).length≤l.length+1:=by
 have h:=zgo 10 l;have h2:l.count 10≤l.length:=count_le_length;unfold zcZ;split
 ·rw[length_take];omega
 ·omega
theorem LS.start{H0 H12 H13:Hp}{lim:Int}{lv:Value}{lines:List (List UInt8)}(hL:Laid H0)
  (t:T3 H12 H0.next (H0.next+1) (H0.next+2) (.pointer (some ⟨H0.next+5,0,none⟩)) (.slice none 0 0) (.int .i64 0)) (hS:StF H12 (H0.next+5) lim [] [] (.slice none 0 0) (H0.next+3) (H0.next+4)) (n12:H12.next=H0.next+6) (f12:Frm (H0.next ≤ ·) H0 H12)
  (hv:Vec H13 1 lv lines.length (lines.map str)) (f13:Frm (fun _=>False) H12 H13) (hid:∀j,Id lv j→H12.next≤j) :
  LS H0.next (H13.new (.cells [.pointer (some ⟨H0.next+5,0,none⟩),.slice none 0 0,.slice none 0 0] true)) H0.next (H0.next+1) (H0.next+2) (H0.next+5) (H0.next+3) (H0.next+4) H13.next lim lv lines [] [] (.slice none 0 0) (.slice none 0 0) [] (.slice none 0 0) [] (.slice none 0 0) []:=by
 let H14:=H13.new (.cells [.pointer (some ⟨H0.next+5,0,none⟩),.slice none 0 0,.slice none 0 0] true)
 have f14:Frm (fun _=>False) H13 H14:=zcz _ _ _;have ff:Frm (fun _=>False) H12 H14:=f13.trans f14 fun j q=>q.elim;have hn:=f13.next;have o:∀j,j<H0.next+6→H14.get j=H12.get j:=fun j hj=>ff.same j (by omega) fun q=>q;let cl:Nat→Nat:=fun j=>if j=H0.next then 0 else if j=H0.next+1 then 1 else if j=H0.next+2 then 2 else if j<H0.next+6 then 3 else if j<H13.next then 4 else 5
 have key:∀a j,LRg H0.next (H0.next+1) (H0.next+2) (H0.next+5) (H0.next+3) (H0.next+4) H13.next (.slice none 0 0) lv (.slice none 0 0) (.slice none 0 0) (.slice none 0 0) a j→cl j=a∧H0.next≤j∧j<H13.next+1:=fun a j hj=>by
  match a,hj with
  |0,hj=>obtain rfl:j=H0.next:=hj;exact⟨if_pos rfl,by omega,by omega⟩
  |1,hj=>obtain rfl:j=H0.next+1:=hj;exact⟨by show (if _ then _ else _)=_;rw[if_neg (by omega),if_pos rfl],by omega,by omega⟩
  |2,hj=>obtain rfl:j=H0.next+2:=hj;exact⟨by show (if _ then _ else _)=_;rw[if_neg (by omega),if_neg (by omega),if_pos rfl],by omega,by omega⟩
  |3,hj=>
   have hj:j=H0.next+5∨j=H0.next+3∨j=H0.next+4:=zhE hj;exact⟨by show (if _ then _ else _)=_;rw[if_neg (by omega),if_neg (by omega),if_neg (by omega),if_pos (by omega)],by omega,by omega⟩
  |4,hj=>
   have h1:=hid j hj;have h2:=hv.lt hj;exact⟨by show (if _ then _ else _)=_;rw[if_neg (by omega),if_neg (by omega),if_neg (by omega),if_neg (by omega),if_pos h2],by omega,by omega⟩
  |5,hj=>obtain rfl:j=H13.next:=hj;exact⟨by show (if _ then _ else _)=_;rw[if_neg (by omega),if_neg (by omega),if_neg (by omega),if_neg (by omega),if_neg (by omega)],by omega,by omega⟩
  |6,hj=>cases hj
  |7,hj=>cases hj
  |8,hj=>cases hj
  |n+9,hj=>cases hj
 have hL14:Laid H14:=hL.keep (M:=(H0.next ≤ ·)) (f12.trans (ff.mono fun j q=>q.elim) fun j q=>.inl q) fun j q=>Nat.le_trans hL.next q
 refine⟨hL.next,by show H0.next≤H13.next+1;omega,⟨fun a j hj=>(key a j hj).2.2,fun a j hj=>(key a j hj).2.1,fun a b j ha hb=>by rw[←(key a j ha).1,(key b j hb).1]⟩,by rw[o _ (by omega)];exact t.a1,by rw[o _ (by omega)];exact t.a3,by rw[o _ (by omega)];exact t.a5,
  hS.keep (fun j hj=>o j (by have:=zhE hj;omega)) ff.next,hv.keep f14 fun _ _ q=>q,⟨if_pos rfl,.inl ⟨rfl,rfl⟩,fun q=>(by cases q),by show H13.next<H13.next+1;omega,fun w hw=>(by cases hw)⟩,Vec.nil _ _,Vec.nil _ _,hL14⟩
theorem n_new(H:Hp)(o:AObj):(H.new o).next=H.next+1:=rfl
theorem zj9{α:Type}(v:Value)(H:Hp)(k:Value→Hp→Option α):zgu (some (v,H)) k=k v H:=rfl
theorem c_load{H0:Hp}(hL:Laid H0)(l:List UInt8)(hl:l.length≤2^37){lim:Int}(hlim:¬lim<0):LoadA H0 lim AP W1 [str l,.int .i64 lim] (zfD lim (zcZ l) 0 [] [] []):=by
 have hrun:=zmL E0 rfl (str l) (.int .i64 lim) H0;rw[znk]at hrun;let H3:=((H0.new (.cells [.pointer none] true)).new (.cells [.slice none 0 0] true)).new (.cells [.int .i64 0] true)
 have t0:T3 H3 H0.next (H0.next+1) (H0.next+2) (.pointer none) (.slice none 0 0) (.int .i64 0):=by
  refine⟨?_,?_,?_,by omega,by omega,by omega⟩
  ·show (Hp.new _ _).get _=_;rw[get_new,if_neg (by show ¬H0.next=H0.next+1+1;omega),get_new,if_neg (by show ¬H0.next=H0.next+1;omega),get_new,if_pos rfl]
  ·show (Hp.new _ _).get _=_;rw[get_new,if_neg (by show ¬H0.next+1=H0.next+1+1;omega),get_new];exact if_pos rfl
  ·show (Hp.new _ _).get _=_;rw[get_new];exact if_pos rfl
 have f03:Frm (H0.next ≤ ·) H0 H3:=((zcz _ _ (H0.next ≤ ·)).trans (zcz _ _ (H0.next ≤ ·)) fun j q=>.inl q).trans (zcz _ _ (H0.next ≤ ·)) fun j q=>.inl q;have hnew:RR Bn [.int .i64 lim] H3=some (.tuple #[.pointer (some ⟨H0.next+5,0,none⟩),.int .i64 0],newH lim H3):=by rw[c16,if_neg hlim];rfl
 have hS3:StF (newH lim H3) (H0.next+5) lim [] [] (.slice none 0 0) (H0.next+3) (H0.next+4):=newH_st lim H3;have old3:∀j,j<H0.next+3→(newH lim H3).get j=H3.get j:=fun j hj=>zof lim H3 j hj;have t1:T3 (newH lim H3) H0.next (H0.next+1) (H0.next+2) (.pointer none) (.slice none 0 0) (.int .i64 0):=⟨by rw[old3 _ (by omega)];exact t0.a1,by rw[old3 _ (by omega)];exact t0.a3,by rw[old3 _ (by omega)];exact t0.a5,t0.n13,t0.n15,t0.n35⟩
 have f3n:Frm (H0.next ≤ ·) H3 (newH lim H3):=⟨by rw[zlW];omega,fun j hj _=>zof lim H3 j hj⟩
 have w1:∀{H2 H3:Hp} {q:Nat},H0.next≤q→Frm (· = q) H2 H3→Frm (H0.next ≤ ·) H2 H3:=fun hq k=>k.mono fun j e=>.inl (by rw[e];exact hq);obtain⟨H4,a1,a2,a3⟩:=t1.s1 (v:=.pointer (some ⟨H0.next+5,0,none⟩)) ⟨rfl,rfl⟩;obtain⟨H5,b1,b2,b3⟩:=a2.s5 (v:=.int .i64 0) ⟨rfl,rfl⟩;have hz:¬((0:Int)≠0):=by decide
 simp only[zcX,n_new]at hrun;rw[show ((H0.new (.cells [.pointer none] true)).new (.cells [.slice none 0 0] true)).new (.cells [.int .i64 0] true)=H3 from rfl,zag hnew,x01,a1,b1,b2.l5,zba,zad,s_br,if_neg (fun q=>hz (of_decide_eq_true q))]at hrun;have n5:H5.next=H0.next+6:=by
  have e1:=a1 Nat fun H=>some H.next;have e2:=b1 Nat fun H=>some H.next;have e3:∀(o:Nat) (v:Value) (H:Hp) (cs:List Value),H.get o=some (.cells cs true)→cs.length=1→OneV v→(zas 1 H (.pointer (some ⟨o,0,none⟩)) v fun H=>some H.next)=some H.next:=fun o v H cs hg hc hv=>by rw[zey hg hv.1 hv.2 (by omega)];rfl
  rw[e3 _ _ _ _ t1.a1 rfl ⟨rfl,rfl⟩]at e1;rw[e3 _ _ _ _ a2.a5 rfl ⟨rfl,rfl⟩]at e2;have e1:=Option.some.inj e1;have e2:=Option.some.inj e2;rw[←e2,←e1,zlW];rfl
 have f35:Frm (H0.next ≤ ·) (newH lim H3) H5:=(w1 (Nat.le_refl _) a3).trans (w1 (by omega) b3) fun j q=>.inl q;have f05:Frm (H0.next ≤ ·) H0 H5:=(f03.trans f3n fun j q=>.inl q).trans f35 fun j q=>.inl q;have hS5:StF H5 (H0.next+5) lim [] [] (.slice none 0 0) (H0.next+3) (H0.next+4):=by have k4:StF H4 (H0.next+5) lim [] [] (.slice none 0 0) (H0.next+3) (H0.next+4):=hS3.keep (fun j hj=>a3.same j (hS3.foot_lt hj) fun e=>by have:=zhE hj;omega) a3.next;exact k4.keep (fun j hj=>b3.same j (k4.foot_lt hj) fun e=>by have:=zhE hj;omega) b3.next
 obtain⟨v,H6,s1,s2,s3,s4⟩:=c_split l (by omega) H5;have s1':RR Bk [str l,.string ⟨#[10]⟩] H5=some (v,H6):=s1;rw[zag s1']at hrun;have hcl:=zgo 10 l;have hcnt:l.count 10≤l.length:=count_le_length;have hlast:=cut_last l;obtain⟨y,hy,⟨rest,hg⟩,hix⟩:=s2.ix (i:=l.count 10) (by omega)
 have hld:=fun (α:Type) (k:Value→Option α)=>zbi hg (l.count 10*1) (str ((cutB 10 l).getD (l.count 10) [])) (by
  rw[Nat.mul_one,List.getElem?_append_left (by rw[length_map];omega),List.getElem?_map,hlast];rfl) k
 have hone:((cutB 10 l).map str).all one=true:=by rw[all_map];exact all_eq_true.2 fun _ _=>rfl
 obtain⟨v2,u1,u2,u3⟩:=s2.cut hone (m:=l.count 10) (by omega);have hsub:IntKind.i64.wrap (((cutB 10 l).length:Int)-1)=((l.count 10:Nat):Int):=by rw[hcl,w64 (by omega) (by omega)];omega
 have hlines:∃lv,(zaw (
    pLen .sl v H6 fun v25=>
    pBin PP .sub Aa v25 (.int .i64 1) fun v26=>
    pIdx 1 v v26 fun p27=>
    zak 1 false H6 p27 fun v28=>
    pBin PP .eql Ac v28 (.string ⟨#[]⟩) fun v29=>
    zaa v29 fun b30=>br b30
    (pLen .sl v H6 fun v31=>
    pBin PP .sub Aa v31 (.int .i64 1) fun v32=>
    zda 1 v none (some v32) fun v33=>
    some (.next,[v33],H6))
    (some (.next,[v],H6))):(Ctl→List Value→Hp→Option (Value×Hp))→Option (Value×Hp))=(fun k=>k .next [lv] H6)∧Vec H6 1 lv (zcZ l).length ((zcZ l).map str)∧∀j,Id lv j→H5.next≤j:=by
  have hemp:∀{α:Type} (k:Value→Option α),pBin PP .eql Ac (str ((cutB 10 l).getD (l.count 10) [])) (.string ⟨#[]⟩) k=k (.bool ((cutB 10 l).getD (l.count 10) []==[])):=fun k=>zfs Ac _ [] k;unfold zcZ;by_cases he:(cutB 10 l).getD (l.count 10) []=[]
  ·rw[if_pos he];have hb:((cutB 10 l).getD (l.count 10) []==[])=true:=by rw[he];rfl
   refine⟨v2,?_,?_,fun j hj=>s4 j (u3 j hj)⟩
   ·funext k;simp only[s2.len,zd5,hsub,hix,hld,hemp,hb,zad,s_br,if_true,u1,zan]
   ·rw[length_take,Nat.min_eq_left (by omega),map_take];rw[Nat.mul_one]at u2;exact u2
  ·rw[if_neg he];have hb:((cutB 10 l).getD (l.count 10) []==[])=false:=by rw[beq_eq_false_iff_ne];exact he
   refine⟨v,?_,s2,s4⟩;funext k;simp only[s2.len,zd5,hsub,hix,hld,hemp,hb,zad,s_br,Bool.false_eq_true,if_false,zan]
 obtain⟨lv,z1,z2,z3⟩:=hlines;have hrun2:=hrun.trans (congrFun z1 _);rw[za3]at hrun2;have hst:=LS.start hL b2 hS5 n5 f05 z2 s3 z3;have hloop:=zjT (lines:=zcZ l) (by have:=zkR l;omega) (fun x hx=>by have:=zom l x hx;omega) (zcZ l) 0 _ (.int .i64 0) [] [] _ _ [] _ _ [] rfl (Nat.zero_le _) rfl (Nat.le_refl _) (Inv.nil lim) hst;have hfin:=hloop.fin (fun H k=>z2.len H k) (by have:=zkR l;omega) b2.n13 b2.n15 b2.n35 (Nat.le_refl _) (by omega) (by omega);have f07:Frm (H0.next ≤ ·) H0 (H6.new (.cells [.pointer (some ⟨H0.next+5,0,none⟩),.slice none 0 0,.slice none 0 0] true)):=(f05.trans (s3.mono fun j q=>q.elim) fun j q=>.inl q).trans (zcz _ _ (H0.next ≤ ·)) fun j q=>.inl q;have b6:∀(k:Value→Option (Value×Hp)),zak 1 false H6 (.pointer (some ⟨H0.next,0,none⟩)) k=k (.pointer (some ⟨H0.next+5,0,none⟩)):=fun k=>by exact zbi (by rw[s3.same _ (by omega) fun q=>q];exact b2.a1) 0 _ rfl k
 simp only[qg0]at hrun2;rw[b6,bldRd]at hrun2;have hcl3:zab (.agg #[.pointer (some ⟨H0.next+5,0,none⟩),.slice none 0 0,.slice none 0 0])=[.pointer (some ⟨H0.next+5,0,none⟩),.slice none 0 0,.slice none 0 0]:=rfl;rw[hcl3,z2.len]at hrun2;cases hq:zfD lim (zcZ l) 0 [] [] [] with
 |bad ln e=>
  rw[hq]at hfin;obtain⟨H7,x1,⟨a,b,c,x2⟩,x3⟩:=hfin;have hrun3:=hrun2.trans (congrArg (fun z=>zgu z _) x1);obtain⟨H8,y1,y2,y3⟩:=c_caught x2 e;have hf8:Frm (H0.next ≤ ·) H0 H8:=(f07.trans x3 fun j q=>.inl q).trans (y3.mono fun j q=>.inl (by rcases q with q|q|q<;>omega)) fun j q=>.inl q;refine⟨H8,hrun3.trans ?_,hf8.mono fun j q=>.inr q⟩;rw[zj9,s_wrap0];have e1:∀{α:Type} (k:Value→List Value→Option α),pTail (.tuple #[zcd e,.int .i64 (ln:Int)]) k=k (zcd e) [.int .i64 (ln:Int)]:=fun k=>rfl;rw[e1,zgr];have e2:∀(k:Value→Hp→Option (Value×Hp)),zgu (zcw RR (zcd e) (.pointer (some ⟨H0.next,0,none⟩)) (.pointer (some ⟨H0.next+1,0,none⟩)) (.pointer (some ⟨H0.next+2,0,none⟩)) H7) k=k (.tuple #[]) H8:=fun k=>by rw[y1];rfl
  refine(e2 _).trans ?_;rw[end_ld y2]
  ·rfl
  ·rfl
  ·rfl
  ·rfl
  ·intro k;kernel_rfl
  ·intro k;kernel_rfl
  ·intro k;kernel_rfl
 |good L K q=>
  rw[hq]at hfin;obtain⟨H7,sl,rv,x1,x2,x3,x4,x5,x6,x7,x8⟩:=hfin;have hrun3:=hrun2.trans (congrArg (fun z=>zgu z _) x1);refine⟨H7,_,_,_,sl,rv,hrun3.trans ?_,x3,x4,(f07.trans x5 fun j q=>.inl q).mono fun j q=>.inr q,x6,x7,x8⟩;rw[zj9,s_wrap1];have e1:∀(k:List Value→Option (Value×Hp)),zkd [.cell 4 Ao,.cell 5 AK,.tmp 6,.cell 7 Ai] (.tuple #[.pointer (some ⟨H0.next+5,0,none⟩),rv,.int .i64 0,.int .i64 0]) k=k [.pointer (some ⟨H0.next+5,0,none⟩),rv,.int .i64 0,.int .i64 0]:=fun k=>rfl;have e2:∀(k:List Value→Option (Value×Hp)),zlM [.cell 4 Ao,.cell 5 AK,.tmp 6,.cell 7 Ai] [.pointer (some ⟨H0.next+5,0,none⟩),rv,.int .i64 0,.int .i64 0] k=k [.int .i64 0]:=fun k=>rfl;refine(e1 _).trans ((e2 _).trans ?_);rw[zgr,c_calm];show endL PP _ H7 _ [.int .i64 0] _=_;rw[end_ld x2]
  ·rfl
  ·rfl
  ·rfl
  ·rfl
  ·intro k;kernel_rfl
  ·intro k;kernel_rfl
  ·intro k;kernel_rfl
end Go.AM
namespace Go.AM
open Go
theorem zlZ{α:Type}(n:Nd)(k:Value→Option α):zaj 1 false n.cells 6 k=k (.string n.name):=zd6 _ 6 _ rfl k
section
end
section
end
section
end
section
end
theorem cellsV(n:Nd):zab n.val=n.cells:=rfl
section
end
section
variable {H:Hp}{p f g:Nat}{lim:Int}{L:List Nd}{K:List (ByteArray×Int)}{sl:Value}(hs:StR H p lim L sl f g)
include hs
theorem c10(hL:(L.length:Int)≤4611686018427387904)(t:Int):RR Ak [.pointer (some ⟨p,0,none⟩),.int .i64 t] H=some (.tuple #[(zdc L t).val,.int .i64 (if isT L t=true then 0 else 70)],H):=by
 refine(zgG E0 rfl _ _ _).trans ?_;unfold zef;rw[zag (c19 hs),zbQ,zad];unfold zdc;cases ht:isT L t with
 |false=>simp only[Bool.not_false,br,bnil,spl7,ncell7,Bool.false_eq_true,if_false]
 |true=>
  obtain⟨i,n,hn,hi,hx⟩:=s_idx hs.all ht hL (fun p11=>zak 7 true H p11 fun v12=>
   zaN 7 [.int .i64 0,.int .i64 0,.int .i64 0,.int .i64 0,.int .i64 0,.int .u64 0,.string ⟨#[]⟩] 0 v12 fun c13=>zaj 7 true c13 0 fun v14=>some ((Value.tuple #[v14,(.int .i64 0)]),H))
  simp only[Bool.not_true,br,zbA,zaK,Nat.zero_add,hs.l1,zd5,if_true];rw[hx,ld7 hi hn,spl7,ncell7,hn];rfl
end
end Go.AM
namespace Go.AM
open List Go
theorem s_t4{α:Type}(a b c d:Value)(k:Value→Option α):zac (.tuple #[a,b,c,d]) 0 k=k a∧zac (.tuple #[a,b,c,d]) 1 k=k b∧zac (.tuple #[a,b,c,d]) 2 k=k c∧zac (.tuple #[a,b,c,d]) 3 k=k d:=⟨rfl,rfl,rfl,rfl⟩
theorem zjr{ts:List Int}:∀(ws:List (List UInt8)) (l:List Int),zdF ts ws=some l→l.length=ws.length
 |[],l,h=>by cases h;rfl
 |w::r,l,h=>by
  unfold zdF at h;split at h
  ·cases h
  ·split at h
   ·cases h
   ·rename_i q hq;cases h;rw[length_cons,length_cons,zjr r q hq]
theorem zok{lim:Int}{N:Nat}:∀(lines:List (List UInt8)) (k:Nat) (L:List Nd) (K:List (ByteArray×Int)) (ts:List Int) (L':List Nd) (K':List (ByteArray×Int)) (q:List Int),(∀l∈lines,l.length≤N)→zfD lim lines k L K ts=.good L' K' q→L'.length≤L.length+lines.length∧q.length≤N+1
 |[],k,L,K,ts,L',K',q,hN,h=>by cases h
 |l::rest,k,L,K,ts,L',K',q,hN,h=>by
  unfold zfD at h;have hl:=hN l (mem_cons_self ..);have hwl:(zbN l).length≤l.length+1:=by unfold zbN;rw[length_map];exact zgy l 0 none
  cases hw:zbN l with
  |nil=>rw[hw]at h;cases h
  |cons w0 r=>
   rw[hw]at h hwl;dsimp only at h;rw[length_cons]at hwl;split at h
   ·cases hp:zdF ts r with
    |none=>rw[hp]at h;cases h
    |some q'=>
     rw[hp]at h;have hql:=zjr r q' hp;cases rest with
     |nil=>
      cases h;exact⟨by omega,by omega⟩
     |cons a b=>cases h
   ·cases hp:zni (w0::r) ts L with
    |none=>rw[hp]at h;cases h
    |some m=>
     rw[hp]at h;dsimp only at h;split at h
     ·cases h
     ·have ih:=zok rest (k+1) _ _ _ L' K' q (fun x hx=>hN x (mem_cons_of_mem _ hx)) h;have:=mk_le (lim:=lim) (L:=L) (K:=K) m;rw[length_cons];exact⟨by omega,ih.2⟩
end Go.AM
