/- Part of the proof of EvalFreshUptoCardSaid: see the last file.  -/
import Derived.KernelRfl
import Derived.Test.YtcbmccpkhagckaaGreatDoorProg
import Derived.Shelf.Strings.Builder1
import Derived.Shelf.Small.Wraps
import Derived.Shelf.Strings.BuilderF
import Derived.Shelf.Strings.BuilderK
import Derived.Shelf.Utf8.RuneCount
import Derived.Shelf.Strconv.Itoa0
import Derived.Shelf.Strconv.Itoa1
import Derived.Shelf.LaysM
import Derived.Shelf.Strconv.Itoa2
import Derived.Shelf.Strconv.Itoa3
import Derived.Shelf.Strconv.Clone
import Derived.Shelf.Strconv.SyntaxError
import Derived.Shelf.LaysC
import Derived.Shelf.Strconv.ToError
import Derived.Shelf.Strconv.Lower
import Derived.Shelf.Strconv.ParseUint10
import Derived.Shelf.Strconv.ParseUint10Empty
import Derived.Shelf.Strconv.ParseUint10Any
import Derived.Shelf.Strconv.RangeError
import Derived.Shelf.Strconv.ToErrorRange
import Derived.Shelf.Strconv.ParseUintEmpty
import Derived.Shelf.Strconv.ParseUint10b64
import Derived.Shelf.Strconv.ParseUint10b32
import Derived.Shelf.Strconv.ParseUint10b16
import Derived.Shelf.Strconv.ParseUint10b8
import Derived.Shelf.Strconv.ParseUint10At
import Derived.Shelf.Strings.Search1
import Derived.Shelf.Strings.Search2
import Derived.Shelf.Strings.Search3
import Derived.Shelf.Strings.Count
import Derived.Shelf.Strings.Shaped
import Derived.Shelf.Strings.Prefix
import Derived.Shelf.Strings.Split
import Derived.Shelf.Strings.Fields
import Derived.Shelf.Strings.SplitShaped
import Derived.Shelf.Unicode.Latin
import Derived.Shelf.Unicode.Decode
import Derived.Shelf.Strings.RuneCount
import Derived.Shelf.Strings.Explode
import Derived.Shelf.Unicode.DecodeSlow
import Derived.Shelf.Unicode.DecodeAny
import Derived.Shelf.Unicode.Is16White
import Derived.Shelf.Unicode.IsSpaceAny
import Derived.Shelf.Unicode.Is16WhiteD
import Derived.Shelf.Unicode.IsSpaceAnyD
import Derived.Shelf.Unicode.Is16Any
import Derived.Shelf.Unicode.Is32Any
import Derived.Shelf.Unicode.ExclAny
import Derived.Shelf.Strings.BuilderCap
import Derived.Laws.Bits64
import Derived.Laws.RangeString
import Derived.Laws.RangeAny
import Derived.Lib.DecodeN
import Derived.Test.YtcbmccpkhagckaaGreatDoorT0
import Derived.Test.YtcbmccpkhagckaaGreatDoorT1
set_option linter.unusedSimpArgs false
set_option linter.unusedVariables false
set_option linter.unusedSectionVars false
set_option maxRecDepth 100000
namespace Go.AM
open Go Go.AM
noncomputable abbrev PP:Program:=Go.Proofs.Tryz.prog
abbrev ET:=FuncId→Option (List Value→Hp→Option (Value×Hp))
abbrev B2:Nat:=0
abbrev AC:Nat:=1
abbrev BT:Nat:=2
abbrev AD:Nat:=3
abbrev BP:Nat:=4
abbrev BU:Nat:=5
abbrev BV:Nat:=6
abbrev Av:Nat:=7
abbrev Aw:Nat:=8
abbrev BW:Nat:=9
abbrev AR:Nat:=10
abbrev Bp:FuncId:=84
abbrev Bq:FuncId:=85
abbrev Br:FuncId:=82
abbrev Bs:FuncId:=87
abbrev AS:FuncId:=55
abbrev AJ:FuncId:=102
abbrev AT:FuncId:=117
abbrev Bu:FuncId:=143
abbrev Aq:FuncId:=114
abbrev AK:FuncId:=115
abbrev Bv:FuncId:=86
abbrev Ae:FuncId:=80
abbrev Bw:FuncId:=83
abbrev A6:FuncId:=118
abbrev A7:FuncId:=116
abbrev By:FuncId:=7
abbrev Bz:FuncId:=12
abbrev A8:FuncId:=19
abbrev Ax:FuncId:=15
abbrev AU:FuncId:=30
abbrev AV:FuncId:=17
abbrev AW:FuncId:=16
abbrev BA:FuncId:=96
abbrev AL:FuncId:=29
abbrev AE:FuncId:=53
abbrev AX:FuncId:=24
abbrev A9:FuncId:=18
abbrev AN:FuncId:=13
abbrev AO:FuncId:=20
abbrev Ba:FuncId:=51
abbrev BB:FuncId:=40
abbrev BC:FuncId:=54
abbrev Bb:FuncId:=81
abbrev BD:FuncId:=47
abbrev AY:FuncId:=52
abbrev Bc:FuncId:=39
abbrev AZ:FuncId:=157
abbrev B3:FuncId:=173
abbrev A0:FuncId:=184
abbrev B4:FuncId:=174
abbrev BX:FuncId:=172
abbrev B5:FuncId:=126
abbrev B6:FuncId:=127
abbrev B7:FuncId:=131
abbrev A1:FuncId:=160
abbrev Ar:FuncId:=176
abbrev BY:FuncId:=177
abbrev Bd:FuncId:=159
abbrev BE:FuncId:=175
abbrev BF:FuncId:=158
abbrev Be:FuncId:=171
abbrev Bf:FuncId:=138
abbrev A2:FuncId:=161
abbrev BZ:FuncId:=64
abbrev B0:FuncId:=97
abbrev Bg:FuncId:=135
abbrev BG:FuncId:=137
abbrev Bh:FuncId:=99
abbrev AF:FuncId:=67
abbrev A3:FuncId:=136
abbrev Bi:FuncId:=65
abbrev B8:FuncId:=134
abbrev Bj:FuncId:=101
abbrev AP:FuncId:=35
abbrev Bk:FuncId:=66
abbrev Ay:FuncId:=68
abbrev Bl:FuncId:=26
abbrev At:FuncId:=48
abbrev Ao:FuncId:=31
abbrev As:FuncId:=38
abbrev AG:FuncId:=50
abbrev BH:FuncId:=94
abbrev Aj:FuncId:=49
abbrev BJ:FuncId:=95
abbrev BK:FuncId:=60
abbrev Bm:FuncId:=103
abbrev Au:FuncId:=62
abbrev Ap:FuncId:=69
abbrev AH:FuncId:=72
abbrev Al:FuncId:=71
abbrev Bn:FuncId:=70
abbrev BL:FuncId:=93
abbrev B9:FuncId:=155
abbrev Ca:TypeId:=235
abbrev Cb:TypeId:=196
abbrev Bo:TypeId:=106
abbrev A4:TypeId:=167
abbrev Cc:TypeId:=266
abbrev Ai:TypeId:=30
abbrev Am:TypeId:=71
abbrev Ak:TypeId:=48
abbrev Az:TypeId:=114
abbrev BM:TypeId:=269
abbrev AI:TypeId:=165
abbrev Aa:TypeId:=3
abbrev Af:TypeId:=21
abbrev BN:TypeId:=2
abbrev BQ:TypeId:=20
abbrev Cd:TypeId:=169
abbrev AA:TypeId:=267
abbrev BO:TypeId:=251
abbrev An:TypeId:=24
abbrev Ce:TypeId:=210
abbrev B1:TypeId:=22
abbrev Ag:TypeId:=249
abbrev Ac:TypeId:=9
abbrev AQ:TypeId:=121
abbrev A5:TypeId:=175
abbrev AB:TypeId:=109
abbrev Ad:TypeId:=131
abbrev BR:TypeId:=148
abbrev BS:TypeId:=134
abbrev Ab:TypeId:=38
abbrev Ah:TypeId:=5
abbrev Cf:TypeId:=243
abbrev Cg:TypeId:=240
def orc:Orc:={ mkOrc [(8,[20]),(13,[15,17]),(14,[12]),(20,[11]),(21,[7]),(23,[10]),(24,[14]),(25,[13,14]),(28,[10]),(29,[17,19]),(31,[4]),(32,[16]),(34,[14]),(36,[18]),(37,[6]),(38,[14]),(39,[6,7,10]),(40,[6]),(43,[12,14]),(45,[11,12,13,14]),(48,[3]),(53,[2]),(55,[15]),(56,[1]),(66,[4]),(67,[11,14]),(76,[4,6]),(77,[3]),(78,[3]),(92,[6]),(93,[1]),(94,[3]),(95,[3]),(96,[5]),(102,[18]),(105,[3]),(110,[2]),(111,[3]),(112,[3]),(155,[4]),(169,[10]),(170,[9])]
 [(3,[(10,some ([],[])),(4,some ([],[]))]),(4,[(13,some ([],[]))]),(5,[(9,some ([],[])),(4,some ([],[]))]),(6,[(16,some ([8],[])),(13,some ([],[])),(5,some ([],[]))]),(8,[(37,some ([],[])),(32,some ([],[])),(20,some ([],[]))]),(10,[(10,some ([],[]))]),(11,[(5,some ([],[]))]),(12,[(4,some ([],[]))]),(21,[(9,some ([],[7]))]),(28,[(5,some ([22],[])),(4,some ([15],[])),(10,some ([],[10]))]),(34,[(21,some ([],[]))]),(35,[(17,some ([],[])),(7,some ([8],[]))]),(36,[(18,some ([71],[])),(14,some ([14],[])),(11,some ([],[]))]),(48,[(26,some ([],[])),(21,some ([],[])),(5,some ([],[])),(3,some ([],[]))]),(52,[(15,some ([],[]))]),(55,[(7,some ([5],[])),(3,some ([],[]))]),(62,[(6,some ([4],[]))]),(67,[(14,some ([5],[]))]),(72,[(22,some ([69],[])),(31,some ([],[])),(12,some ([],[]))]),(76,[(21,some ([],[4])),(11,some ([],[4])),(4,some ([],[4]))]),(77,[(4,some ([13],[]))]),(78,[(23,some ([],[])),(18,some ([],[])),(7,some ([26],[])),(5,some ([17],[]))]),(82,[(3,some ([],[]))]),(84,[(5,some ([],[])),(3,some ([],[]))]),(86,[(3,some ([],[]))]),(87,[(5,some ([],[])),(3,some ([],[]))]),(92,[(26,some ([111],[])),(24,some ([94],[])),(17,some ([66],[]))]),(94,[(8,some ([27],[]))]),(95,[(12,some ([60],[])),(4,some ([13],[]))]),(96,[(9,some ([],[])),(5,some ([],[]))]),(101,[(7,some ([3],[]))]),(102,[(5,some ([4],[]))]),(107,[(6,some ([4,5],[]))]),(109,[(2,some ([3],[]))]),(110,[(3,some ([],[]))]),(111,[(12,some ([67],[]))]),(112,[(3,some ([8],[]))]),(113,[(3,some ([],[]))]),(120,[(3,some ([],[]))]),(122,[(5,some ([],[])),(3,some ([],[]))]),(124,[(3,some ([],[]))]),(125,[(5,some ([],[])),(3,some ([],[]))]),(131,[(8,some ([6],[])),(4,some ([],[]))]),(134,[(4,some ([1],[]))]),(139,[(3,some ([6],[])),(8,some ([5],[]))]),(146,[(19,some ([11],[]))]),(152,[(20,some ([4,12],[]))]),(153,[(7,some ([1],[])),(3,some ([],[]))]),(154,[(5,some ([],[]))]),(158,[(26,some ([107],[])),(23,some ([],[])),(21,some ([8],[])),(3,some ([16],[])),(10,some ([],[]))]),(160,[(41,some ([106],[])),(46,some ([12,16],[])),(32,some ([10],[])),(25,some ([2],[])),(16,some ([52],[])),(13,some ([40],[])),(7,some ([25],[])),(21,some ([0,1],[]))]),(164,[(4,some ([0,2],[]))]),(168,[(2,some ([17],[]))]),(170,[(21,some ([],[])),(16,some ([],[]))]),(174,[(10,some ([],[]))]),(177,[(14,some ([3],[])),(10,some ([3,4,5],[])),(5,some ([0],[]))])]
 [(3,[(11,[17],[])]),(4,[(24,[17,19],[]),(21,[17,18],[]),(14,[14],[])]),(5,[(10,[14],[])]),(6,[(8,[5,6,7],[])]),(7,[(19,[17],[]),(13,[16],[])]),(8,[(41,[30],[]),(38,[29],[]),(12,[12,13,14,15,16],[])]),(9,[(20,[17],[]),(11,[12,13],[])]),(13,[(26,[19,113],[]),(12,[49],[])]),(14,[(22,[16,17],[]),(10,[11],[])]),(16,[(4,[5],[])]),(17,[(4,[5],[])]),(20,[(8,[8,26],[])]),(21,[(3,[5,6],[])]),(22,[(6,[5,6],[]),(3,[3],[])]),(23,[(8,[8,9],[])]),(24,[(14,[57],[]),(9,[38],[])]),(25,[(16,[15,16,17],[]),(9,[12],[])]),(29,[(21,[72],[]),(16,[58],[])]),(30,[(4,[5],[])]),(32,[(24,[17,18,69],[]),(17,[56],[]),(10,[41],[])]),(34,[(37,[128],[]),(22,[86],[]),(9,[32],[])]),(35,[(19,[],[]),(11,[6,10,42],[])]),(36,[(8,[10,11,12,13],[])]),(37,[(4,[5],[])]),(38,[(16,[8,10],[]),(11,[8,10,36],[]),(2,[18],[])]),(39,[(11,[41],[]),(3,[16],[])]),(41,[(2,[5],[])]),(42,[(9,[5],[]),(3,[3,4],[])]),(43,[(18,[13,15],[]),(12,[8,10],[]),(9,[8,9],[]),(2,[6],[])]),(44,[(2,[5],[])]),(45,[(8,[15],[13,14])]),(48,[(6,[35],[])]),(51,[(3,[11],[])]),(52,[(32,[26,130],[]),(17,[21,79],[]),(6,[45],[])]),(55,[(4,[],[15])]),(67,[(16,[49],[]),(4,[5,6],[14])]),(72,[(13,[44],[])]),(74,[(4,[3,4,5],[])]),(75,[(3,[6,7],[])]),(76,[(14,[9,10],[4,6]),(5,[7],[6])]),(89,[(7,[4],[]),(2,[3],[])]),(99,[(27,[12],[]),(21,[10,11,12],[]),(18,[12],[]),(5,[3,4,5,6],[])]),(101,[(11,[0,10],[])]),(102,[(6,[],[18])]),(103,[(2,[2,7],[])]),(107,[(9,[5,6],[])]),(113,[(4,[3],[])]),(134,[(6,[0,7],[])]),(135,[(6,[0,5],[])]),(140,[(2,[3],[])]),(146,[(3,[9,10],[])]),(152,[(1,[1,4],[])]),(153,[(11,[1,13],[]),(18,[1,13],[])]),(155,[(2,[2],[4])]),(158,[(15,[8,10],[])]),(160,[(36,[12,13,101],[])]),(168,[(14,[7,8],[]),(3,[20],[])]),(169,[(14,[7,8],[]),(3,[16],[])]),(174,[(11,[8,10],[]),(5,[8,9],[])]),(177,[(10,[3,4],[])]),(185,[(8,[6,7,8],[]),(3,[4,5],[])])] with xt:=look none [(184,some zjl),(157,some zjs)],gt:=fun t=>List.elem t [5,121],pan:=fun f=>List.elem f [35,69,70,71,72,103],dfr:=fun f=>List.elem f [35] }
noncomputable def zcg(R:zae)(a:Value)(b:Hp):Option (Value×Hp):=zdM PP orc R By Go.Proofs.Tryz.f7 [a] b
noncomputable def zdl(R:zae)(m:Hp):Option (Value×Hp):=zdZ R AP [(.string ⟨#[49,32,118,97,114,32,120,32,56,10,50,32,118,97,114,32,121,32,56,10,51,32,97,100,100,32,49,32,50,10,52,32,101,113,32,51,32,49,10,114,111,111,116,115,32,51,32,52,10]⟩),(.int .i64 0)] m fun c n=>zad c 0 fun d=>zad c 1 fun e=>zad c 2 fun am=>zad c 3 fun o=>zau (zaf R Ax [o] n fun p a=>pBin PP .neq Aa p (.int .i64 0) fun q=>zaa q fun r=>br r (some (.ret,[(.bool false)],a)) (pBin PP .eql An d (.pointer none) fun s=>zaa s fun t=>br t (some (.ret,[(.bool false)],a)) (pLen .sl e a fun u=>pBin PP .neq Aa u (.int .i64 2) fun v=>zaa v fun w=>br w (some (.ret,[(.bool false)],a)) (some (.next,[],a))))) fun x y g=>zaH x (zaz PP Ak [(0,(.string ⟨#[120]⟩)),(1,(.int .i64 8)),(2,(.int .u64 200))] fun z=>zaz PP Ak [(0,(.string ⟨#[121]⟩)),(1,(.int .i64 8)),(2,(.int .u64 100))] fun A=>zak 3 [.string ⟨#[]⟩,.int .i64 0,.int .u64 0] 2 [(0,z),(1,A)] g fun B C=>zaf R AN [d,e,B] C fun h i=>zad h 0 fun D=>zad h 1 fun E=>pIdx 1 e (.int .i64 1) fun F=>zal 1 false i F fun G=>zaf R AX [d,G] i fun f j=>zad f 0 fun H=>zad f 1 fun I=>zad f 2 fun J=>zad f 3 fun K=>pIdx 1 e (.int .i64 0) fun L=>zal 1 false j L fun M=>zaz PP Ak [(0,(.string ⟨#[120]⟩)),(1,(.int .i64 4)),(2,(.int .u64 1))] fun N=>zak 3 [.string ⟨#[]⟩,.int .i64 0,.int .u64 0] 1 [(0,N)] j fun O P=>zaf R A9 [d,M,O] P fun k Q=>zad k 0 fun ao=>zad k 1 fun S=>zaf R Ax [E] Q fun T U=>zaf R Ax [K] U fun V l=>pBin PP .add Aa T V fun W=>pBin PP .eql Aa W (.int .i64 0) fun X=>zaa X fun Y=>br Y (zak 1 [.int .u64 0] 2 [(0,(.int .u64 44)),(1,(.int .u64 0))] l fun Z aa=>zaf R AW [D,Z] aa fun ab b=>zaa ab fun ac=>br ac (pBin PP .eql Aa H (.int .i64 4) fun ad=>zaa ad fun ae=>br ae (pBin PP .eql Ab I (.int .u64 5) fun af=>zaa af fun ag=>br ag (pBin PP .eql Aa J (.int .i64 3) fun ah=>zaa ah fun ai=>br ai (zaf R Ax [S] b fun aj ak=>pBin PP .eql Aa aj (.int .i64 71) fun al=>some (al,ak)) (some ((.bool false),b))) (some ((.bool false),b))) (some ((.bool false),b))) (some ((.bool false),b))) (some ((.bool false),l))) (fun ap=>none) (some ((y.headD undef),g))
noncomputable def zfS(R:zae)(a b c:Value)(d:Hp):Option (Value×Hp):=zdM PP orc R AN Go.Proofs.Tryz.f13 [a,b,c] d
noncomputable def zgk(R:zae)(a:Value)(b:Hp):Option (Value×Hp):=some (a,b)
noncomputable def zcf(R:zae)(a b:Value)(c:Hp):Option (Value×Hp):=zdM PP orc R AW Go.Proofs.Tryz.f16 [a,b] c
noncomputable def zcq(R:zae)(a b:Value)(c:Hp):Option (Value×Hp):=zdM PP orc R AV Go.Proofs.Tryz.f17 [a,b] c
noncomputable def zgD(R:zae)(d e f:Value)(g:Hp):Option (Value×Hp):=zak 1 [.int .i64 0] 1 [(0,e)] g fun h i=>zaf R AN [d,h,f] i fun b a=>zad b 0 fun j=>zad b 1 fun c=>pBin PP .neq Ai c (.int .i64 0) fun k=>zaa k fun l=>br l (some ((.tuple #[(.int .u64 0),c]),a)) (pIdx 1 j (.int .i64 0) fun m=>zal 1 false a m fun n=>some ((.tuple #[n,(.int .i64 0)]),a))
noncomputable def zdk(R:zae)(e:Value)(f:Hp):Option (Value×Hp):=zdZ R AP [e,(.int .i64 0)] f fun a g=>zad a 0 fun b=>zad a 1 fun c=>zad a 2 fun m=>zad a 3 fun h=>zaf R Ax [h] g fun i d=>pBin PP .eql Aa i (.int .i64 0) fun j=>zaa j fun k=>br k (pBin PP .neq An b (.pointer none) fun l=>some ((.tuple #[b,c,l]),d)) (some ((.tuple #[b,c,(.bool false)]),d))
noncomputable def zhZ(R:zae)(a b:Value)(c:Hp):Option (Value×Hp):=zdM PP orc R AO Go.Proofs.Tryz.f20 [a,b] c
noncomputable def zh0(R:zae)(a b:Value)(c:Hp):Option (Value×Hp):=zdM PP orc R AX Go.Proofs.Tryz.f24 [a,b] c
noncomputable def zjb(R:zae)(a:Value)(b:Hp):Option (Value×Hp):=pBin PP .lss Aa a (.int .i64 0) fun c=>zaa c fun d=>br d (some ((.tuple #[(.pointer none),(.int .i64 1)]),b)) (zbv b fun e f=>zbv f fun g h=>zaz PP AB [(0,a),(2,e),(3,g)] fun i=>zcM (zab i) h fun j k=>some ((.tuple #[j,(.int .i64 0)]),k))
noncomputable def zjd(R:zae)(a b c d:Value)(e:Hp):Option (Value×Hp):=zdM PP orc R AL Go.Proofs.Tryz.f29 [a,b,c,d] e
noncomputable def zcr(R:zae)(a b:Value)(c:Hp):Option (Value×Hp):=zdM PP orc R AU Go.Proofs.Tryz.f30 [a,b] c
noncomputable def zd1(R:zae)(b c:Value)(d:Hp):Option (Value×Hp):=zaf R AG [b,c] d fun e a=>pUn .not e fun f=>zaa f fun g=>br g (zaz PP Am [] fun h=>zba 7 [.int .i64 0,.int .i64 0,.int .i64 0,.int .i64 0,.int .i64 0,.int .u64 0,.string ⟨#[]⟩] 0 h fun i=>zaj 7 true i 0 fun j=>some ((.tuple #[j,(.int .i64 70)]),a)) (pNil b (zas 1 b fun k=>zal 1 false a k fun l=>pBin PP .sub Aa c (.int .i64 1) fun m=>pIdx 7 l m fun n=>zal 7 true a n fun o=>zba 7 [.int .i64 0,.int .i64 0,.int .i64 0,.int .i64 0,.int .i64 0,.int .u64 0,.string ⟨#[]⟩] 0 o fun p=>zaj 7 true p 0 fun q=>some ((.tuple #[q,(.int .i64 0)]),a)))
noncomputable def zhV(R:zae)(a b:Value)(c:Hp):Option (Value×Hp):=zdM PP orc R AP Go.Proofs.Tryz.f35 [a,b] c
noncomputable def zdA(R:zae)(a b:Value)(c:Hp):Option (Value×Hp):=zdM PP orc R As Go.Proofs.Tryz.f38 [a,b] c
noncomputable def zhW(R:zae)(a:Value)(b:Hp):Option (Value×Hp):=zdM PP orc R Bc Go.Proofs.Tryz.f39 [a] b
noncomputable def zhY(R:zae)(d c e m f n:Value)(b:Hp):Option (Value×Hp):=zaj 1 false (zab d) 0 fun a=>pBin PP .eql Aa a (.int .i64 1) fun o=>zaa o fun p=>br p (some ((.int .u64 1),b)) (pBin PP .eql Aa a (.int .i64 2) fun q=>zaa q fun r=>br r (some ((.int .u64 0),b)) (pBin PP .eql Aa a (.int .i64 3) fun s=>zaa s fun t=>br t (zaj 1 false (zab d) 5 fun u=>some (u,b)) (pBin PP .eql Aa a (.int .i64 5) fun v=>zaa v fun w=>br w (pBin PP .sub Ab (.int .u64 1) c fun x=>some (x,b)) (pBin PP .eql Aa a (.int .i64 6) fun y=>zaa y fun z=>br z (pBin PP .and Ab c e fun A=>some (A,b)) (pBin PP .eql Aa a (.int .i64 7) fun B=>zaa B fun C=>br C (pBin PP .or Ab c e fun D=>some (D,b)) (pBin PP .eql Aa a (.int .i64 8) fun E=>zaa E fun F=>br F (pBin PP .xor Ab c e fun G=>some (G,b)) (pBin PP .eql Aa a (.int .i64 9) fun H=>zaa H fun I=>br I (pBin PP .eql Ab c e fun J=>zaf R Bb [J] b fun K L=>some (K,L)) (pBin PP .leq Aa a (.int .i64 13) fun M=>zaa M fun N=>br N (zaf R Br [a,f,c,e] b fun g O=>zad g 0 fun P=>zad g 1 fun az=>zaf R Bb [P] O fun Q S=>some (Q,S)) (pBin PP .eql Aa a (.int .i64 14) fun T=>zaa T fun U=>br U (pBin PP .eql Ab c (.int .u64 1) fun V=>zaa V fun W=>br W (some (e,b)) (some (m,b))) (pBin PP .leq Aa a (.int .i64 16) fun X=>zaa X fun Y=>br Y (zaj 1 false (zab d) 1 fun Z=>zaf R Bw [a,Z,c] b fun h aa=>zad h 0 fun ab=>zad h 1 fun ba=>some (ab,aa)) (pBin PP .leq Aa a (.int .i64 29) fun ac=>zaa ac fun ad=>br ad (zaj 1 false (zab d) 1 fun ae=>zaf R Bp [a,ae,c,e] b fun i af=>zad i 0 fun ag=>zad i 1 fun bb=>some (ag,af)) (pBin PP .eql Aa a (.int .i64 30) fun ah=>zaa ah fun ai=>br ai (zaf R Bq [f,c,n,e] b fun j aj=>zad j 0 fun ak=>zad j 1 fun bc=>some (ak,aj)) (pBin PP .eql Aa a (.int .i64 31) fun al=>zaa al fun am=>br am (zaj 1 false (zab d) 5 fun ao=>zap .i64 ao fun ap=>zaj 1 false (zab d) 1 fun aq=>zaf R Bv [f,c,ap,aq] b fun k ar=>zad k 0 fun au=>zad k 1 fun bd=>some (au,ar)) (zaj 1 false (zab d) 0 fun av=>zaj 1 false (zab d) 1 fun aw=>zaf R Bs [av,f,c,aw] b fun l ax=>zad l 0 fun ay=>zad l 1 fun be=>some (ay,ax)))))))))))))))
noncomputable def zhX(R:zae)(a b:Value)(c:Hp):Option (Value×Hp):=pBin PP .add Ab a b fun d=>pBin PP .lss Ab d a fun e=>zaa e fun f=>br f (some ((.int .u64 18446744073709551615),c)) (pBin PP .add Ab a b fun g=>some (g,c))
noncomputable def zd2(R:zae)(a b:Value)(j:Hp):Option (Value×Hp):=zau (zaj 1 false (zab b) 0 fun y=>pBin PP .lss Aa y (.int .i64 1) fun z=>zaa z fun A=>br A (some (.ret,[(.tuple #[(.int .i64 0),(.int .i64 73)])],j)) (zaj 1 false (zab b) 0 fun B=>pBin PP .gtr Aa B (.int .i64 33) fun C=>zaa C fun D=>br D (some (.ret,[(.tuple #[(.int .i64 0),(.int .i64 73)])],j)) (some (.next,[],j)))) fun E F g=>zaH E (zau (zaj 1 false (zab b) 1 fun G=>pBin PP .lss Aa G (.int .i64 0) fun H=>zaa H fun I=>br I (some (.ret,[(.tuple #[(.int .i64 0),(.int .i64 5)])],g)) (zaj 1 false (zab b) 1 fun J=>pBin PP .gtr Aa J (.int .i64 64) fun K=>zaa K fun L=>br L (some (.ret,[(.tuple #[(.int .i64 0),(.int .i64 5)])],g)) (some (.next,[],g)))) fun M N m=>zaH M (zaj 1 false (zab b) 2 fun O=>zaj 1 false (zab b) 3 fun P=>zaj 1 false (zab b) 4 fun Q=>zaz PP Bo [(0,O),(1,P),(2,Q)] fun S=>zau (zar (fun d n=>pBin PP .lss Aa (d.getD 0 undef) (.int .i64 3) fun T=>zaa T fun U=>br U (zcc 3 false 1 S (d.getD 0 undef) fun V=>zaj 1 false (zab b) 0 fun W=>zaf R Au [W] n fun X o=>pBin PP .lss Aa (d.getD 0 undef) X fun Y=>zaa Y fun Z=>br Z (zaf R AG [a,V] o fun aa p=>pUn .not aa fun ab=>zaa ab fun ac=>br ac (some (.ret,[(.tuple #[(.int .i64 0),(.int .i64 70)])],p)) (pBin PP .add Aa (d.getD 0 undef) (.int .i64 1) fun ad=>some (.next,[ad],p))) (pBin PP .add Aa (d.getD 0 undef) (.int .i64 1) fun ae=>some (.next,[ae],o))) (some (.exit 0,[(d.getD 0 undef)],n))) [(.int .i64 0)] m) fun af ag q=>zaH af none (fun ah=>zav ah 0 (zaj 7 true (zab b) 0 fun ai=>zaf R BL [ai] q fun aj r=>zaa aj fun ak=>br ak (some ((.tuple #[(.int .i64 0),(.int .i64 1)]),r)) (zaj 7 true (zab b) 0 fun al=>zaf R BH [a,al] r fun am s=>pUn .not am fun ao=>zaa ao fun ap=>br ap (some ((.tuple #[(.int .i64 0),(.int .i64 71)]),s)) (zaj 7 true (zab b) 0 fun aq=>zaf R BJ [a,aq] s fun ar e=>pUn .not ar fun au=>zaa au fun av=>br av (some ((.tuple #[(.int .i64 0),(.int .i64 5)]),e)) (zau (zaj 1 false (zab b) 0 fun aw=>pBin PP .eql Aa aw (.int .i64 4) fun ax=>zaa ax fun ay=>br ay (pNil a (zas 3 a fun az=>zal 1 false e az fun ba=>zaj 1 false (zab b) 6 fun bb=>zaZ PP Ac (.int .i64 0) ba bb true e fun t=>zad t 0 fun bc=>zad t 1 fun bd=>zaj 1 false (zab b) 6 fun be=>zaf R AS [be] e fun bf h=>pUn .not bf fun bg=>zaa bg fun bh=>br bh (some (.ret,[(.tuple #[(.int .i64 0),(.int .i64 72)])],h)) (zaa bd fun bi=>br bi (zaj 1 false (zab b) 1 fun bj=>pBin PP .neq Aa bc bj fun bk=>zaa bk fun bl=>br bl (some (.ret,[(.tuple #[(.int .i64 0),(.int .i64 72)])],h)) (some (.next,[],h))) (some (.next,[],h))))) (some (.next,[],e))) fun bm bn c=>zaH bm (pNil a (zas 2 a fun bo=>zal 1 false c bo fun bp=>zaj 7 true (zab b) 0 fun bq=>zaZ PP Am (.int .i64 0) bp bq true c fun u=>zad u 0 fun bs=>zad u 1 fun bt=>zaa bt fun bu=>br bu (some ((.tuple #[bs,(.int .i64 0)]),c)) (zau (pNil a (zas 0 a fun bv=>zal 1 false c bv fun bw=>pBin PP .gtr Aa bw (.int .i64 0) fun bx=>zaa bx fun bz=>br bz (pNil a (zas 1 a fun ca=>zal 1 false c ca fun cb=>pLen .sl cb c fun cc=>pNil a (zas 0 a fun cd=>zal 1 false c cd fun ce=>pBin PP .geq Aa cc ce fun cf=>zaa cf fun cg=>br cg (some (.ret,[(.tuple #[(.int .i64 0),(.int .i64 4)])],c)) (some (.next,[],c))))) (some (.next,[],c)))) fun ch ci k=>zaH ch (pNil a (zas 1 a fun v=>zal 1 false k v fun w=>zaj 7 true (zab b) 0 fun cj=>zak 7 [.int .i64 0,.int .i64 0,.int .i64 0,.int .i64 0,.int .i64 0,.int .u64 0,.string ⟨#[]⟩] 1 [(0,cj)] k fun ck x=>chk (Hp.rdP x v 1 false=some w) (zaA 7 64 w ck x fun cl cm=>pNil a (zas 1 a fun cn=>zan 1 cm cn cl fun i=>pNil a (zas 2 a fun co=>zal 1 false i co fun cp=>zaj 7 true (zab b) 0 fun cq=>pNil a (zas 1 a fun cr=>zal 1 false i cr fun cs=>pLen .sl cs i fun ct=>pUpd PP Am cp cq ct i fun f=>zaj 1 false (zab b) 0 fun cu=>pBin PP .eql Aa cu (.int .i64 4) fun cv=>zaa cv fun cw=>br cw (pNil a (zas 3 a fun cx=>zal 1 false f cx fun cy=>zaj 1 false (zab b) 6 fun cz=>zaj 1 false (zab b) 1 fun da=>pUpd PP Ac cy cz da f fun l=>pNil a (zas 1 a fun db=>zal 1 false l db fun dc=>pLen .sl dc l fun dd=>some ((.tuple #[dd,(.int .i64 0)]),l)))) (pNil a (zas 1 a fun de=>zal 1 false f de fun df=>pLen .sl df f fun dg=>some ((.tuple #[dg,(.int .i64 0)]),f))))))))) (fun dh=>none) (some ((ci.headD undef),k))))) (fun di=>none) (some ((bn.headD undef),c)))))) (none)) (some ((ag.headD undef),q))) (fun dj=>none) (some ((N.headD undef),m))) (fun dk=>none) (some ((F.headD undef),g))
noncomputable def ze7(R:zae)(b c:Value)(d:Hp):Option (Value×Hp):=zaf R AG [b,c] d fun e a=>pUn .not e fun f=>zaa f fun g=>br g (some ((.int .i64 (-1)),a)) (pNil b (zas 1 b fun h=>zal 1 false a h fun i=>pBin PP .sub Aa c (.int .i64 1) fun j=>pIdx 7 i j fun k=>zas 1 k fun l=>zal 1 false a l fun m=>some (m,a)))
noncomputable def zeC(R:zae)(b c:Value)(a:Hp):Option (Value×Hp):=pBin PP .geq Aa c (.int .i64 1) fun d=>zaa d fun e=>br e (pNil b (zas 1 b fun f=>zal 1 false a f fun g=>pLen .sl g a fun h=>pBin PP .leq Aa c h fun i=>some (i,a))) (some ((.bool false),a))
noncomputable def zgC(R:zae)(a:Value)(b:Hp):Option (Value×Hp):=zdM PP orc R Ba Go.Proofs.Tryz.f51 [a] b
noncomputable def zfQ(R:zae)(a b c d e:Value)(f:Hp):Option (Value×Hp):=zdM PP orc R AY Go.Proofs.Tryz.f52 [a,b,c,d,e] f
noncomputable def zgE(R:zae)(b c:Value)(a:Hp):Option (Value×Hp):=zal 1 false a c fun d=>zaj 1 false (zab b) 6 fun e=>zaZ PP Ac (.int .i64 0) d e false a fun f=>some ((.tuple #[f,(.int .i64 0)]),a)
noncomputable def zfR(R:zae)(c:Value)(d:Hp):Option (Value×Hp):=zcM [.int .i64 0] d fun b e=>zaf R BA [c,(.iface Cd b)] e fun f a=>zaa f fun g=>br g (zal 1 false a b fun h=>some (h,a)) (some ((.int .i64 0),a))
noncomputable def zh3(R:zae)(e:Value)(d:Hp):Option (Value×Hp):=zau (pLen .str e d fun j=>pBin PP .lss Aa j (.int .i64 1) fun k=>zaa k fun l=>br l (some (.ret,[(.bool false)],d)) (pLen .str e d fun m=>pBin PP .gtr Aa m (.int .i64 24) fun n=>zaa n fun o=>br o (some (.ret,[(.bool false)],d)) (some (.next,[],d)))) fun p q f=>zaH p (ziF e fun s11=>zau (zar (fun a b=>br (Nat.blt (zaS ((a.drop 0).getD 0 undef)) (zaV ((a.drop 0).getD 0 undef)).size) (zau (pBin PP .geq Af (.int .i32 (Utf8.decode (zaV ((a.drop 0).getD 0 undef)) (zaS ((a.drop 0).getD 0 undef))).1) (.int .i32 97) fun r=>zaa r fun s=>br s (pBin PP .leq Af (.int .i32 (Utf8.decode (zaV ((a.drop 0).getD 0 undef)) (zaS ((a.drop 0).getD 0 undef))).1) (.int .i32 122) fun t=>zaa t fun u=>br u (some (.next,[(.bool true)],b)) (pBin PP .geq Af (.int .i32 (Utf8.decode (zaV ((a.drop 0).getD 0 undef)) (zaS ((a.drop 0).getD 0 undef))).1) (.int .i32 65) fun v=>zaa v fun w=>br w (pBin PP .leq Af (.int .i32 (Utf8.decode (zaV ((a.drop 0).getD 0 undef)) (zaS ((a.drop 0).getD 0 undef))).1) (.int .i32 90) fun x=>zaa x fun y=>br y (some (.next,[(.bool true)],b)) (pBin PP .eql Af (.int .i32 (Utf8.decode (zaV ((a.drop 0).getD 0 undef)) (zaS ((a.drop 0).getD 0 undef))).1) (.int .i32 95) fun z=>some (.next,[z],b))) (pBin PP .eql Af (.int .i32 (Utf8.decode (zaV ((a.drop 0).getD 0 undef)) (zaS ((a.drop 0).getD 0 undef))).1) (.int .i32 95) fun A=>some (.next,[A],b)))) (pBin PP .geq Af (.int .i32 (Utf8.decode (zaV ((a.drop 0).getD 0 undef)) (zaS ((a.drop 0).getD 0 undef))).1) (.int .i32 65) fun B=>zaa B fun C=>br C (pBin PP .leq Af (.int .i32 (Utf8.decode (zaV ((a.drop 0).getD 0 undef)) (zaS ((a.drop 0).getD 0 undef))).1) (.int .i32 90) fun D=>zaa D fun E=>br E (some (.next,[(.bool true)],b)) (pBin PP .eql Af (.int .i32 (Utf8.decode (zaV ((a.drop 0).getD 0 undef)) (zaS ((a.drop 0).getD 0 undef))).1) (.int .i32 95) fun F=>some (.next,[F],b))) (pBin PP .eql Af (.int .i32 (Utf8.decode (zaV ((a.drop 0).getD 0 undef)) (zaS ((a.drop 0).getD 0 undef))).1) (.int .i32 95) fun G=>some (.next,[G],b)))) fun H g c=>zaH H (pUn .not (g.getD 0 undef) fun I=>zaa I fun J=>br J (pBin PP .eql Aa (.int .i64 ((zaS ((a.drop 0).getD 0 undef)):Nat)) (.int .i64 0) fun K=>zaa K fun L=>br L (some (.ret,[(.bool false)],c)) (pBin PP .lss Af (.int .i32 (Utf8.decode (zaV ((a.drop 0).getD 0 undef)) (zaS ((a.drop 0).getD 0 undef))).1) (.int .i32 48) fun M=>zaa M fun N=>br N (some (.ret,[(.bool false)],c)) (pBin PP .gtr Af (.int .i32 (Utf8.decode (zaV ((a.drop 0).getD 0 undef)) (zaS ((a.drop 0).getD 0 undef))).1) (.int .i32 57) fun O=>zaa O fun P=>br P (some (.ret,[(.bool false)],c)) (some (.next,[(.tuple #[.string (zaV ((a.drop 0).getD 0 undef)),.int .i64 (((zaS ((a.drop 0).getD 0 undef))+(Utf8.decode (zaV ((a.drop 0).getD 0 undef)) (zaS ((a.drop 0).getD 0 undef))).2):Nat)])],c))))) (some (.next,[(.tuple #[.string (zaV ((a.drop 0).getD 0 undef)),.int .i64 (((zaS ((a.drop 0).getD 0 undef))+(Utf8.decode (zaV ((a.drop 0).getD 0 undef)) (zaS ((a.drop 0).getD 0 undef))).2):Nat)])],c))) (fun h=>zav h 1 (some (.next,[(.tuple #[.string (zaV ((a.drop 0).getD 0 undef)),.int .i64 (((zaS ((a.drop 0).getD 0 undef))+(Utf8.decode (zaV ((a.drop 0).getD 0 undef)) (zaS ((a.drop 0).getD 0 undef))).2):Nat)])],c)) (some (.exit h,[(.tuple #[.string (zaV ((a.drop 0).getD 0 undef)),.int .i64 (((zaS ((a.drop 0).getD 0 undef))+(Utf8.decode (zaV ((a.drop 0).getD 0 undef)) (zaS ((a.drop 0).getD 0 undef))).2):Nat)])],c))) (some (.ret,[(g.headD undef)],c))) (some (.exit 0,[(.tuple #[.string (zaV ((a.drop 0).getD 0 undef)),.int .i64 ((zaS ((a.drop 0).getD 0 undef)):Nat)])],b))) [(.tuple #[.string s11,.int .i64 (0:Nat)])] f) fun Q S i=>zaH Q none (fun T=>zav T 0 (some ((.bool true),i)) (none)) (some ((S.headD undef),i))) (fun U=>none) (some ((q.headD undef),f))
noncomputable def zgB(R:zae)(a:Hp):Option (Value×Hp):=zaf R Bh [(.string ⟨#[45,32,116,114,117,101,32,102,97,108,115,101,32,99,111,110,115,116,32,118,97,114,32,110,111,116,32,97,110,100,32,111,114,32,120,111,114,32,101,113,32,117,108,116,32,117,108,101,32,115,108,116,32,115,108,101,32,105,116,101,32,99,111,109,32,110,101,103,32,98,97,110,100,32,98,111,114,32,98,120,111,114,32,97,100,100,32,115,117,98,32,109,117,108,32,100,105,118,32,114,101,109,32,115,104,108,32,115,104,114,32,115,97,114,32,114,111,108,32,114,111,114,32,99,97,116,32,115,108,105,99,101,32,122,101,120,116,32,115,101,120,116]⟩)] a fun b c=>some (b,c)
noncomputable def zgA(R:zae)(b:Value)(c:Hp):Option (Value×Hp):=zau (pBin PP .eql Aa b (.int .i64 1) fun d=>zaa d fun m=>br m (some (.next,[d],c)) (pBin PP .eql Aa b (.int .i64 2) fun e=>zaa e fun n=>br n (some (.next,[e],c)) (pBin PP .eql Aa b (.int .i64 3) fun f=>zaa f fun o=>br o (some (.next,[f],c)) (pBin PP .eql Aa b (.int .i64 4) fun p=>some (.next,[p],c))))) fun q g a=>zaH q (zaa (g.getD 0 undef) fun r=>br r (some ((.int .i64 0),a)) (pBin PP .eql Aa b (.int .i64 5) fun h=>zaa h fun s=>br s (zaa h fun t=>br t (some ((.int .i64 1),a)) (pBin PP .eql Aa b (.int .i64 14) fun u=>zaa u fun v=>br v (some ((.int .i64 3),a)) (some ((.int .i64 2),a)))) (pBin PP .eql Aa b (.int .i64 15) fun i=>zaa i fun w=>br w (zaa i fun x=>br x (some ((.int .i64 1),a)) (pBin PP .eql Aa b (.int .i64 14) fun y=>zaa y fun z=>br z (some ((.int .i64 3),a)) (some ((.int .i64 2),a)))) (pBin PP .eql Aa b (.int .i64 16) fun j=>zaa j fun A=>br A (zaa j fun B=>br B (some ((.int .i64 1),a)) (pBin PP .eql Aa b (.int .i64 14) fun C=>zaa C fun D=>br D (some ((.int .i64 3),a)) (some ((.int .i64 2),a)))) (pBin PP .eql Aa b (.int .i64 31) fun k=>zaa k fun E=>br E (zaa k fun F=>br F (some ((.int .i64 1),a)) (pBin PP .eql Aa b (.int .i64 14) fun G=>zaa G fun H=>br H (some ((.int .i64 3),a)) (some ((.int .i64 2),a)))) (pBin PP .eql Aa b (.int .i64 32) fun l=>zaa l fun I=>br I (zaa l fun J=>br J (some ((.int .i64 1),a)) (pBin PP .eql Aa b (.int .i64 14) fun K=>zaa K fun L=>br L (some ((.int .i64 3),a)) (some ((.int .i64 2),a)))) (pBin PP .eql Aa b (.int .i64 33) fun M=>zaa M fun N=>br N (some ((.int .i64 1),a)) (pBin PP .eql Aa b (.int .i64 14) fun O=>zaa O fun P=>br P (some ((.int .i64 3),a)) (some ((.int .i64 2),a)))))))))) (fun Q=>zav Q 0 (some ((.int .i64 2),a)) (none)) (some ((g.headD undef),a))
noncomputable def zeD(R:zae)(a b:Value)(c:Hp):Option (Value×Hp):=zaf R Bj [a,b,(.int .i64 0),(.int .i64 (-1))] c fun d e=>some (d,e)
noncomputable def zcp(R:zae)(x b c d:Value)(a:Hp):Option (Value×Hp):=zdf PP .eql BQ x fun e=>zaa e fun f=>br f (some ((.tuple #[]),a)) (zfm PP Ad x fun g=>zba 1 [.int .i64 0] 0 g fun h=>zaj 1 false h 0 fun i=>zan 1 a b (.pointer none) fun j=>zan 1 j c (.slice none 0 0) fun k=>zan 1 k d i fun l=>some ((.tuple #[]),l))
theorem zf2(R:zae)(x a b c:Value)(d:Hp){α:Type}(k:Hp→Option α):zf1 PP orc R Bk [a,b,c] x d k=zf5 (zcp R x a b c d) fun _ H=>k H:=by kernel_rfl
noncomputable def zc1(R:zae)(a b:Value)(c:Hp):Option (Value×Hp):=zdM PP orc R AF Go.Proofs.Tryz.f67 [a,b] c
noncomputable def zfP(R:zae)(a:Value)(b:Hp):Option (Value×Hp):=pBin PP .eql Af a (.int .i32 32) fun c=>some (c,b)
noncomputable def zco(R:zae)(a:Value)(b:Hp):Option (Value×Hp):=pNil a (zas 1 a fun c=>zal 1 false b c fun d=>pLen .sl d b fun e=>pBin PP .eql Aa e (.int .i64 0) fun f=>zaa f fun g=>br g (zaz PP Ad [(0,(.int .i64 3))] fun h=>some ((W0 (.iface Ad h)),b)) (pNil a (zas 1 a fun i=>zal 1 false b i fun j=>pIdx 1 j (.int .i64 0) fun k=>zal 1 false b k fun l=>pNil a (zas 1 a fun m=>zal 1 false b m fun n=>zcY 1 n (some (.int .i64 1)) none fun o=>pNil a (zas 1 a fun p=>zan 1 b p o fun q=>some ((W1 l),q))))))
noncomputable def zdy(R:zae)(b:Value)(d:Hp):Option (Value×Hp):=zbd R Al [b] d (fun e f=>some ((W0 e),f)) fun c a=>pBin PP .lss Aa c (.int .i64 1) fun g=>zaa g fun h=>br h (zaz PP Ad [(0,(.int .i64 3))] fun i=>some ((W0 (.iface Ad i)),a)) (pNil b (zas 2 b fun j=>zal 1 false a j fun k=>pLen .sl k a fun l=>pBin PP .gtr Aa c l fun m=>zaa m fun n=>br n (zaz PP Ad [(0,(.int .i64 3))] fun o=>some ((W0 (.iface Ad o)),a)) (pNil b (zas 2 b fun p=>zal 1 false a p fun q=>pBin PP .sub Aa c (.int .i64 1) fun r=>pIdx 1 q r fun s=>zal 1 false a s fun t=>some ((W1 t),a)))))
noncomputable def zc0(R:zae)(d:Value)(e:Hp):Option (Value×Hp):=zbd R Ap [d] e (fun f g=>some ((W0 f),g)) fun h i=>zaf R AJ [h] i fun b a=>zad b 0 fun c=>zad b 1 fun j=>pBin PP .neq Ai j (.int .i64 0) fun k=>zaa k fun l=>br l (zaz PP Ad [(0,(.int .i64 3))] fun m=>some ((W0 (.iface Ad m)),a)) (pBin PP .geq Ab c (.int .u64 2147483648) fun n=>zaa n fun o=>br o (zaz PP Ad [(0,(.int .i64 3))] fun p=>some ((W0 (.iface Ad p)),a)) (zap .i64 c fun q=>some ((W1 q),a)))
noncomputable def zdz(R:zae)(a:Value)(b:Hp):Option (Value×Hp):=zdM PP orc R AH Go.Proofs.Tryz.f72 [a] b
noncomputable def zh2(R:zae)(a c:Value)(b:Hp):Option (Value×Hp):=pBin PP .lss Aa a (.int .i64 1) fun d=>zaa d fun e=>br e (some ((.int .u64 0),b)) (pBin PP .geq Aa a (.int .i64 64) fun f=>zaa f fun g=>br g (some (c,b)) (zap .u64 a fun h=>pBin PP .shl Ab (.int .u64 1) h fun i=>pBin PP .sub Ab i (.int .u64 1) fun j=>pBin PP .and Ab c j fun k=>some (k,b)))
noncomputable def zjc(R:zae)(b:Value)(a:Hp):Option (Value×Hp):=zaa b fun c=>br c (some ((.int .u64 1),a)) (some ((.int .u64 0),a))
noncomputable def zjf(R:zae)(a b k l:Value)(f:Hp):Option (Value×Hp):=zau (pBin PP .lss Aa a (.int .i64 9) fun m=>zaa m fun n=>br n (some (.ret,[(.tuple #[(.bool false),(.int .i64 73)])],f)) (pBin PP .gtr Aa a (.int .i64 13) fun o=>zaa o fun p=>br p (some (.ret,[(.tuple #[(.bool false),(.int .i64 73)])],f)) (some (.next,[],f)))) fun q r g=>zaH q (zaf R Aq [b] g fun s h=>pUn .not s fun t=>zaa t fun u=>br u (some ((.tuple #[(.bool false),(.int .i64 5)]),h)) (zaf R Ae [b,k] h fun d v=>zaf R Ae [b,l] v fun e w=>zaf R AK [b,d] w fun i x=>zaf R AK [b,e] x fun j c=>pBin PP .eql Aa a (.int .i64 9) fun y=>zaa y fun z=>br z (pBin PP .eql Ab d e fun A=>some ((.tuple #[A,(.int .i64 0)]),c)) (pBin PP .eql Aa a (.int .i64 10) fun B=>zaa B fun C=>br C (pBin PP .lss Ab d e fun D=>some ((.tuple #[D,(.int .i64 0)]),c)) (pBin PP .eql Aa a (.int .i64 11) fun E=>zaa E fun F=>br F (pBin PP .leq Ab d e fun G=>some ((.tuple #[G,(.int .i64 0)]),c)) (pBin PP .eql Aa a (.int .i64 12) fun H=>zaa H fun I=>br I (pBin PP .lss BN i j fun J=>some ((.tuple #[J,(.int .i64 0)]),c)) (pBin PP .leq BN i j fun K=>some ((.tuple #[K,(.int .i64 0)]),c))))))) (fun L=>none) (some ((r.headD undef),g))
noncomputable def zlk(R:zae)(b a c:Value)(d:Hp):Option (Value×Hp):=pBin PP .neq Aa b (.int .i64 15) fun g=>zaa g fun h=>br h (pBin PP .neq Aa b (.int .i64 16) fun i=>zaa i fun j=>br j (some ((.tuple #[(.int .u64 0),(.int .i64 73)]),d)) (zaf R Aq [a] d fun k e=>pUn .not k fun l=>zaa l fun m=>br m (some ((.tuple #[(.int .u64 0),(.int .i64 5)]),e)) (pBin PP .eql Aa b (.int .i64 15) fun n=>zaa n fun o=>br o (pUn .xor c fun p=>zaf R Ae [a,p] e fun q r=>some ((.tuple #[q,(.int .i64 0)]),r)) (pUn .neg c fun s=>zaf R Ae [a,s] e fun t u=>some ((.tuple #[t,(.int .i64 0)]),u))))) (zaf R Aq [a] d fun v f=>pUn .not v fun w=>zaa w fun x=>br x (some ((.tuple #[(.int .u64 0),(.int .i64 5)]),f)) (pBin PP .eql Aa b (.int .i64 15) fun y=>zaa y fun z=>br z (pUn .xor c fun A=>zaf R Ae [a,A] f fun B C=>some ((.tuple #[B,(.int .i64 0)]),C)) (pUn .neg c fun D=>zaf R Ae [a,D] f fun E F=>some ((.tuple #[E,(.int .i64 0)]),F))))
noncomputable def zjh(R:zae)(b a l m:Value)(f:Hp):Option (Value×Hp):=zau (pBin PP .lss Aa b (.int .i64 17) fun n=>zaa n fun o=>br o (some (.ret,[(.tuple #[(.int .u64 0),(.int .i64 73)])],f)) (pBin PP .gtr Aa b (.int .i64 29) fun p=>zaa p fun q=>br q (some (.ret,[(.tuple #[(.int .u64 0),(.int .i64 73)])],f)) (some (.next,[],f)))) fun r s g=>zaH r (zau (zaf R Aq [a] g fun t h=>pUn .not t fun u=>zaa u fun v=>br v (some (.ret,[(.tuple #[(.int .u64 0),(.int .i64 5)])],h)) (zaf R A7 [b] h fun w i=>zaa w fun x=>br x (zap .u64 a fun y=>zaf R AT [y] i fun z j=>pBin PP .neq Aa z (.int .i64 1) fun A=>zaa A fun B=>br B (some (.ret,[(.tuple #[(.int .u64 0),(.int .i64 5)])],j)) (some (.next,[],j))) (some (.next,[],i)))) fun C D k=>zaH C (zaf R Ae [a,l] k fun e E=>zaf R Ae [a,m] E fun d F=>zaf R A7 [b] F fun G c=>zaa G fun H=>br H (zap .u64 a fun I=>pBin PP .rem Ab d I fun J=>zap .i64 J fun K=>zaf R A6 [b,a,e,K] c fun L M=>some ((.tuple #[L,(.int .i64 0)]),M)) (pBin PP .eql Aa b (.int .i64 17) fun N=>zaa N fun O=>br O (pBin PP .and Ab e d fun P=>zaf R Ae [a,P] c fun Q S=>some ((.tuple #[Q,(.int .i64 0)]),S)) (pBin PP .eql Aa b (.int .i64 18) fun T=>zaa T fun U=>br U (pBin PP .or Ab e d fun V=>zaf R Ae [a,V] c fun W X=>some ((.tuple #[W,(.int .i64 0)]),X)) (pBin PP .eql Aa b (.int .i64 19) fun Y=>zaa Y fun Z=>br Z (pBin PP .xor Ab e d fun aa=>zaf R Ae [a,aa] c fun ab ac=>some ((.tuple #[ab,(.int .i64 0)]),ac)) (pBin PP .eql Aa b (.int .i64 20) fun ad=>zaa ad fun ae=>br ae (pBin PP .add Ab e d fun af=>zaf R Ae [a,af] c fun ag ah=>some ((.tuple #[ag,(.int .i64 0)]),ah)) (pBin PP .eql Aa b (.int .i64 21) fun ai=>zaa ai fun aj=>br aj (pBin PP .sub Ab e d fun ak=>zaf R Ae [a,ak] c fun al am=>some ((.tuple #[al,(.int .i64 0)]),am)) (pBin PP .eql Aa b (.int .i64 22) fun ao=>zaa ao fun ap=>br ap (pBin PP .mul Ab e d fun aq=>zaf R Ae [a,aq] c fun ar au=>some ((.tuple #[ar,(.int .i64 0)]),au)) (pBin PP .eql Aa b (.int .i64 23) fun av=>zaa av fun aw=>br aw (pBin PP .neq Ab d (.int .u64 0) fun ax=>zaa ax fun ay=>br ay (pBin PP .quo Ab e d fun az=>zaf R Ae [a,az] c fun ba bb=>some ((.tuple #[ba,(.int .i64 0)]),bb)) (zaf R Ae [a,(.int .u64 18446744073709551615)] c fun bc bd=>some ((.tuple #[bc,(.int .i64 0)]),bd))) (pBin PP .eql Aa b (.int .i64 24) fun be=>zaa be fun bf=>br bf (pBin PP .neq Ab d (.int .u64 0) fun bg=>zaa bg fun bh=>br bh (pBin PP .rem Ab e d fun bi=>zaf R Ae [a,bi] c fun bj bk=>some ((.tuple #[bj,(.int .i64 0)]),bk)) (zaf R Ae [a,e] c fun bl bm=>some ((.tuple #[bl,(.int .i64 0)]),bm))) (zaf R Ae [a,(.int .u64 0)] c fun bn bo=>some ((.tuple #[bn,(.int .i64 0)]),bo))))))))))) (fun bp=>none) (some ((D.headD undef),k))) (fun bq=>none) (some ((s.headD undef),g))
noncomputable def zjg(R:zae)(b e a f:Value)(g:Hp):Option (Value×Hp):=zaf R Aq [b] g fun h d=>pUn .not h fun i=>zaa i fun j=>br j (some ((.tuple #[(.int .u64 0),(.int .i64 5)]),d)) (zaf R Aq [a] d fun k c=>pUn .not k fun l=>zaa l fun m=>br m (some ((.tuple #[(.int .u64 0),(.int .i64 5)]),c)) (pBin PP .add Aa b a fun n=>pBin PP .gtr Aa n (.int .i64 64) fun o=>zaa o fun p=>br p (some ((.tuple #[(.int .u64 0),(.int .i64 5)]),c)) (zaf R Ae [b,e] c fun q r=>zap .u64 a fun s=>pBin PP .shl Ab q s fun t=>zaf R Ae [a,f] r fun u v=>pBin PP .or Ab t u fun w=>some ((.tuple #[w,(.int .i64 0)]),v))))
noncomputable def zgG(R:zae)(b f c d:Value)(g:Hp):Option (Value×Hp):=zau (zaf R Aq [b] g fun h a=>pUn .not h fun i=>zaa i fun j=>br j (some (.ret,[(.tuple #[(.int .u64 0),(.int .i64 5)])],a)) (pBin PP .lss Aa d (.int .i64 1) fun k=>zaa k fun l=>br l (some (.ret,[(.tuple #[(.int .u64 0),(.int .i64 5)])],a)) (pBin PP .lss Aa c (.int .i64 0) fun m=>zaa m fun n=>br n (some (.ret,[(.tuple #[(.int .u64 0),(.int .i64 5)])],a)) (pBin PP .gtr Aa c b fun o=>zaa o fun p=>br p (some (.ret,[(.tuple #[(.int .u64 0),(.int .i64 5)])],a)) (pBin PP .sub Aa b c fun q=>pBin PP .gtr Aa d q fun r=>zaa r fun s=>br s (some (.ret,[(.tuple #[(.int .u64 0),(.int .i64 5)])],a)) (some (.next,[],a))))))) fun t u e=>zaH t (zaf R Ae [b,f] e fun v w=>zap .u64 c fun x=>pBin PP .shr Ab v x fun y=>zaf R Ae [d,y] w fun z A=>some ((.tuple #[z,(.int .i64 0)]),A)) (fun B=>none) (some ((u.headD undef),e))
noncomputable def zje(R:zae)(b a g c:Value)(d:Hp):Option (Value×Hp):=zau (pBin PP .neq Aa b (.int .i64 32) fun j=>zaa j fun k=>br k (pBin PP .neq Aa b (.int .i64 33) fun l=>zaa l fun m=>br m (some (.ret,[(.tuple #[(.int .u64 0),(.int .i64 73)])],d)) (some (.next,[],d))) (some (.next,[],d))) fun n o h=>zaH n (zau (zaf R Aq [a] h fun p i=>pUn .not p fun q=>zaa q fun r=>br r (some (.ret,[(.tuple #[(.int .u64 0),(.int .i64 5)])],i)) (zaf R Aq [c] i fun s e=>pUn .not s fun t=>zaa t fun u=>br u (some (.ret,[(.tuple #[(.int .u64 0),(.int .i64 5)])],e)) (pBin PP .lss Aa c a fun v=>zaa v fun w=>br w (some (.ret,[(.tuple #[(.int .u64 0),(.int .i64 5)])],e)) (some (.next,[],e))))) fun x y f=>zaH x (pBin PP .eql Aa b (.int .i64 32) fun z=>zaa z fun A=>br A (zaf R Ae [a,g] f fun B C=>some ((.tuple #[B,(.int .i64 0)]),C)) (zaf R AK [a,g] f fun D E=>zap .u64 D fun F=>zaf R Ae [c,F] E fun G H=>some ((.tuple #[G,(.int .i64 0)]),H))) (fun I=>none) (some ((y.headD undef),f))) (fun J=>none) (some ((o.headD undef),h))
noncomputable def zgz(R:zae)(a:Value)(d:Hp):Option (Value×Hp):=zaj 1 false (zab a) 0 fun e=>zaf R Au [e] d fun c b=>pBin PP .lss Aa c (.int .i64 1) fun f=>zaa f fun g=>br g (zaj 1 false (zab a) 2 fun h=>pBin PP .neq Aa h (.int .i64 0) fun i=>zaa i fun j=>br j (some ((.bool true),b)) (pBin PP .lss Aa c (.int .i64 2) fun k=>zaa k fun l=>br l (zaj 1 false (zab a) 3 fun m=>pBin PP .neq Aa m (.int .i64 0) fun n=>zaa n fun o=>br o (some ((.bool true),b)) (pBin PP .lss Aa c (.int .i64 3) fun p=>zaa p fun q=>br q (zaj 1 false (zab a) 4 fun r=>pBin PP .neq Aa r (.int .i64 0) fun s=>zaa s fun t=>br t (some ((.bool true),b)) (zaj 1 false (zab a) 5 fun u=>pBin PP .neq Ab u (.int .u64 0) fun v=>zaa v fun w=>br w (zaj 1 false (zab a) 0 fun x=>pBin PP .neq Aa x (.int .i64 3) fun y=>zaa y fun z=>br z (zaj 1 false (zab a) 0 fun A=>pBin PP .neq Aa A (.int .i64 31) fun B=>zaa B fun C=>br C (some ((.bool true),b)) (zaj 1 false (zab a) 6 fun D=>pBin PP .neq Ac D (.string ⟨#[]⟩) fun E=>zaa E fun F=>br F (zaj 1 false (zab a) 0 fun G=>pBin PP .neq Aa G (.int .i64 4) fun H=>some (H,b)) (some ((.bool false),b)))) (zaj 1 false (zab a) 6 fun I=>pBin PP .neq Ac I (.string ⟨#[]⟩) fun J=>zaa J fun K=>br K (zaj 1 false (zab a) 0 fun L=>pBin PP .neq Aa L (.int .i64 4) fun M=>some (M,b)) (some ((.bool false),b)))) (zaj 1 false (zab a) 6 fun N=>pBin PP .neq Ac N (.string ⟨#[]⟩) fun O=>zaa O fun P=>br P (zaj 1 false (zab a) 0 fun Q=>pBin PP .neq Aa Q (.int .i64 4) fun S=>some (S,b)) (some ((.bool false),b))))) (zaj 1 false (zab a) 5 fun T=>pBin PP .neq Ab T (.int .u64 0) fun U=>zaa U fun V=>br V (zaj 1 false (zab a) 0 fun W=>pBin PP .neq Aa W (.int .i64 3) fun X=>zaa X fun Y=>br Y (zaj 1 false (zab a) 0 fun Z=>pBin PP .neq Aa Z (.int .i64 31) fun aa=>zaa aa fun ab=>br ab (some ((.bool true),b)) (zaj 1 false (zab a) 6 fun ac=>pBin PP .neq Ac ac (.string ⟨#[]⟩) fun ad=>zaa ad fun ae=>br ae (zaj 1 false (zab a) 0 fun af=>pBin PP .neq Aa af (.int .i64 4) fun ag=>some (ag,b)) (some ((.bool false),b)))) (zaj 1 false (zab a) 6 fun ah=>pBin PP .neq Ac ah (.string ⟨#[]⟩) fun ai=>zaa ai fun aj=>br aj (zaj 1 false (zab a) 0 fun ak=>pBin PP .neq Aa ak (.int .i64 4) fun al=>some (al,b)) (some ((.bool false),b)))) (zaj 1 false (zab a) 6 fun am=>pBin PP .neq Ac am (.string ⟨#[]⟩) fun ao=>zaa ao fun ap=>br ap (zaj 1 false (zab a) 0 fun aq=>pBin PP .neq Aa aq (.int .i64 4) fun ar=>some (ar,b)) (some ((.bool false),b)))))) (pBin PP .lss Aa c (.int .i64 3) fun au=>zaa au fun av=>br av (zaj 1 false (zab a) 4 fun aw=>pBin PP .neq Aa aw (.int .i64 0) fun ax=>zaa ax fun ay=>br ay (some ((.bool true),b)) (zaj 1 false (zab a) 5 fun az=>pBin PP .neq Ab az (.int .u64 0) fun ba=>zaa ba fun bb=>br bb (zaj 1 false (zab a) 0 fun bc=>pBin PP .neq Aa bc (.int .i64 3) fun bd=>zaa bd fun be=>br be (zaj 1 false (zab a) 0 fun bf=>pBin PP .neq Aa bf (.int .i64 31) fun bg=>zaa bg fun bh=>br bh (some ((.bool true),b)) (zaj 1 false (zab a) 6 fun bi=>pBin PP .neq Ac bi (.string ⟨#[]⟩) fun bj=>zaa bj fun bk=>br bk (zaj 1 false (zab a) 0 fun bl=>pBin PP .neq Aa bl (.int .i64 4) fun bm=>some (bm,b)) (some ((.bool false),b)))) (zaj 1 false (zab a) 6 fun bn=>pBin PP .neq Ac bn (.string ⟨#[]⟩) fun bo=>zaa bo fun bp=>br bp (zaj 1 false (zab a) 0 fun bq=>pBin PP .neq Aa bq (.int .i64 4) fun bs=>some (bs,b)) (some ((.bool false),b)))) (zaj 1 false (zab a) 6 fun bt=>pBin PP .neq Ac bt (.string ⟨#[]⟩) fun bu=>zaa bu fun bv=>br bv (zaj 1 false (zab a) 0 fun bw=>pBin PP .neq Aa bw (.int .i64 4) fun bx=>some (bx,b)) (some ((.bool false),b))))) (zaj 1 false (zab a) 5 fun bz=>pBin PP .neq Ab bz (.int .u64 0) fun ca=>zaa ca fun cb=>br cb (zaj 1 false (zab a) 0 fun cc=>pBin PP .neq Aa cc (.int .i64 3) fun cd=>zaa cd fun ce=>br ce (zaj 1 false (zab a) 0 fun cf=>pBin PP .neq Aa cf (.int .i64 31) fun cg=>zaa cg fun ch=>br ch (some ((.bool true),b)) (zaj 1 false (zab a) 6 fun ci=>pBin PP .neq Ac ci (.string ⟨#[]⟩) fun cj=>zaa cj fun ck=>br ck (zaj 1 false (zab a) 0 fun cl=>pBin PP .neq Aa cl (.int .i64 4) fun cm=>some (cm,b)) (some ((.bool false),b)))) (zaj 1 false (zab a) 6 fun cn=>pBin PP .neq Ac cn (.string ⟨#[]⟩) fun co=>zaa co fun cp=>br cp (zaj 1 false (zab a) 0 fun cq=>pBin PP .neq Aa cq (.int .i64 4) fun cr=>some (cr,b)) (some ((.bool false),b)))) (zaj 1 false (zab a) 6 fun cs=>pBin PP .neq Ac cs (.string ⟨#[]⟩) fun ct=>zaa ct fun cu=>br cu (zaj 1 false (zab a) 0 fun cv=>pBin PP .neq Aa cv (.int .i64 4) fun cw=>some (cw,b)) (some ((.bool false),b))))))) (pBin PP .lss Aa c (.int .i64 2) fun cx=>zaa cx fun cy=>br cy (zaj 1 false (zab a) 3 fun cz=>pBin PP .neq Aa cz (.int .i64 0) fun da=>zaa da fun db=>br db (some ((.bool true),b)) (pBin PP .lss Aa c (.int .i64 3) fun dc=>zaa dc fun dd=>br dd (zaj 1 false (zab a) 4 fun de=>pBin PP .neq Aa de (.int .i64 0) fun df=>zaa df fun dg=>br dg (some ((.bool true),b)) (zaj 1 false (zab a) 5 fun dh=>pBin PP .neq Ab dh (.int .u64 0) fun di=>zaa di fun dj=>br dj (zaj 1 false (zab a) 0 fun dk=>pBin PP .neq Aa dk (.int .i64 3) fun dl=>zaa dl fun dm=>br dm (zaj 1 false (zab a) 0 fun dn=>pBin PP .neq Aa dn (.int .i64 31) fun dp=>zaa dp fun dq=>br dq (some ((.bool true),b)) (zaj 1 false (zab a) 6 fun dr=>pBin PP .neq Ac dr (.string ⟨#[]⟩) fun ds=>zaa ds fun dt=>br dt (zaj 1 false (zab a) 0 fun du=>pBin PP .neq Aa du (.int .i64 4) fun dv=>some (dv,b)) (some ((.bool false),b)))) (zaj 1 false (zab a) 6 fun dw=>pBin PP .neq Ac dw (.string ⟨#[]⟩) fun dx=>zaa dx fun dy=>br dy (zaj 1 false (zab a) 0 fun dz=>pBin PP .neq Aa dz (.int .i64 4) fun ea=>some (ea,b)) (some ((.bool false),b)))) (zaj 1 false (zab a) 6 fun eb=>pBin PP .neq Ac eb (.string ⟨#[]⟩) fun ec=>zaa ec fun ed=>br ed (zaj 1 false (zab a) 0 fun ee=>pBin PP .neq Aa ee (.int .i64 4) fun ef=>some (ef,b)) (some ((.bool false),b))))) (zaj 1 false (zab a) 5 fun eg=>pBin PP .neq Ab eg (.int .u64 0) fun eh=>zaa eh fun ei=>br ei (zaj 1 false (zab a) 0 fun ej=>pBin PP .neq Aa ej (.int .i64 3) fun ek=>zaa ek fun el=>br el (zaj 1 false (zab a) 0 fun em=>pBin PP .neq Aa em (.int .i64 31) fun en=>zaa en fun eo=>br eo (some ((.bool true),b)) (zaj 1 false (zab a) 6 fun ep=>pBin PP .neq Ac ep (.string ⟨#[]⟩) fun eq=>zaa eq fun er=>br er (zaj 1 false (zab a) 0 fun es=>pBin PP .neq Aa es (.int .i64 4) fun et=>some (et,b)) (some ((.bool false),b)))) (zaj 1 false (zab a) 6 fun eu=>pBin PP .neq Ac eu (.string ⟨#[]⟩) fun ev=>zaa ev fun ew=>br ew (zaj 1 false (zab a) 0 fun ex=>pBin PP .neq Aa ex (.int .i64 4) fun ey=>some (ey,b)) (some ((.bool false),b)))) (zaj 1 false (zab a) 6 fun ez=>pBin PP .neq Ac ez (.string ⟨#[]⟩) fun fa=>zaa fa fun fb=>br fb (zaj 1 false (zab a) 0 fun fc=>pBin PP .neq Aa fc (.int .i64 4) fun fd=>some (fd,b)) (some ((.bool false),b)))))) (pBin PP .lss Aa c (.int .i64 3) fun fe=>zaa fe fun ff=>br ff (zaj 1 false (zab a) 4 fun fg=>pBin PP .neq Aa fg (.int .i64 0) fun fh=>zaa fh fun fi=>br fi (some ((.bool true),b)) (zaj 1 false (zab a) 5 fun fj=>pBin PP .neq Ab fj (.int .u64 0) fun fk=>zaa fk fun fl=>br fl (zaj 1 false (zab a) 0 fun fm=>pBin PP .neq Aa fm (.int .i64 3) fun fn=>zaa fn fun fo=>br fo (zaj 1 false (zab a) 0 fun fp=>pBin PP .neq Aa fp (.int .i64 31) fun fq=>zaa fq fun fr=>br fr (some ((.bool true),b)) (zaj 1 false (zab a) 6 fun fs=>pBin PP .neq Ac fs (.string ⟨#[]⟩) fun ft=>zaa ft fun fu=>br fu (zaj 1 false (zab a) 0 fun fv=>pBin PP .neq Aa fv (.int .i64 4) fun fw=>some (fw,b)) (some ((.bool false),b)))) (zaj 1 false (zab a) 6 fun fx=>pBin PP .neq Ac fx (.string ⟨#[]⟩) fun fy=>zaa fy fun fz=>br fz (zaj 1 false (zab a) 0 fun ga=>pBin PP .neq Aa ga (.int .i64 4) fun gb=>some (gb,b)) (some ((.bool false),b)))) (zaj 1 false (zab a) 6 fun gc=>pBin PP .neq Ac gc (.string ⟨#[]⟩) fun gd=>zaa gd fun ge=>br ge (zaj 1 false (zab a) 0 fun gf=>pBin PP .neq Aa gf (.int .i64 4) fun gg=>some (gg,b)) (some ((.bool false),b))))) (zaj 1 false (zab a) 5 fun gh=>pBin PP .neq Ab gh (.int .u64 0) fun gi=>zaa gi fun gj=>br gj (zaj 1 false (zab a) 0 fun gk=>pBin PP .neq Aa gk (.int .i64 3) fun gl=>zaa gl fun gm=>br gm (zaj 1 false (zab a) 0 fun gn=>pBin PP .neq Aa gn (.int .i64 31) fun go=>zaa go fun gp=>br gp (some ((.bool true),b)) (zaj 1 false (zab a) 6 fun gq=>pBin PP .neq Ac gq (.string ⟨#[]⟩) fun gr=>zaa gr fun gs=>br gs (zaj 1 false (zab a) 0 fun gt=>pBin PP .neq Aa gt (.int .i64 4) fun gu=>some (gu,b)) (some ((.bool false),b)))) (zaj 1 false (zab a) 6 fun gv=>pBin PP .neq Ac gv (.string ⟨#[]⟩) fun gw=>zaa gw fun gx=>br gx (zaj 1 false (zab a) 0 fun gy=>pBin PP .neq Aa gy (.int .i64 4) fun gz=>some (gz,b)) (some ((.bool false),b)))) (zaj 1 false (zab a) 6 fun ha=>pBin PP .neq Ac ha (.string ⟨#[]⟩) fun hb=>zaa hb fun hc=>br hc (zaj 1 false (zab a) 0 fun hd=>pBin PP .neq Aa hd (.int .i64 4) fun he=>some (he,b)) (some ((.bool false),b))))))
noncomputable def zdh(R:zae)(g f:Value)(j:Hp):Option (Value×Hp):=zaj 1 false (zab f) 2 fun k=>zaf R Aj [g,k] j fun b l=>zaj 1 false (zab f) 3 fun m=>zaf R Aj [g,m] l fun d n=>zaj 1 false (zab f) 0 fun c=>zaf R Au [c] n fun o e=>pBin PP .eql Aa o (.int .i64 0) fun p=>zaa p fun q=>br q (some ((.bool true),e)) (pBin PP .eql Aa c (.int .i64 5) fun r=>zaa r fun s=>br s (pBin PP .eql Aa b (.int .i64 0) fun t=>some (t,e)) (zau (pBin PP .eql Aa c (.int .i64 6) fun u=>zaa u fun v=>br v (some (.next,[(.bool true)],e)) (pBin PP .eql Aa c (.int .i64 7) fun w=>zaa w fun x=>br x (some (.next,[(.bool true)],e)) (pBin PP .eql Aa c (.int .i64 8) fun y=>some (.next,[y],e)))) fun z i a=>zaH z (zaa (i.getD 0 undef) fun A=>br A (pBin PP .eql Aa b (.int .i64 0) fun B=>zaa B fun C=>br C (pBin PP .eql Aa d (.int .i64 0) fun D=>some (D,a)) (some ((.bool false),a))) (pBin PP .eql Aa c (.int .i64 9) fun E=>zaa E fun F=>br F (pBin PP .eql Aa b d fun G=>some (G,a)) (pBin PP .eql Aa c (.int .i64 14) fun H=>zaa H fun I=>br I (pBin PP .eql Aa b (.int .i64 0) fun J=>zaa J fun K=>br K (zaj 1 false (zab f) 4 fun L=>zaf R Aj [g,L] a fun M N=>pBin PP .eql Aa d M fun O=>some (O,N)) (some ((.bool false),a))) (pBin PP .eql Aa c (.int .i64 30) fun P=>zaa P fun Q=>br Q (pBin PP .gtr Aa b (.int .i64 0) fun S=>zaa S fun T=>br T (pBin PP .gtr Aa d (.int .i64 0) fun U=>some (U,a)) (some ((.bool false),a))) (zaf R Au [c] a fun V h=>pBin PP .eql Aa V (.int .i64 1) fun W=>zaa W fun X=>br X (pBin PP .gtr Aa b (.int .i64 0) fun Y=>some (Y,h)) (pBin PP .gtr Aa b (.int .i64 0) fun Z=>zaa Z fun aa=>br aa (pBin PP .eql Aa b d fun ab=>some (ab,h)) (some ((.bool false),h)))))))) (fun ac=>zav ac 0 (pBin PP .gtr Aa b (.int .i64 0) fun ad=>zaa ad fun ae=>br ae (pBin PP .eql Aa b d fun af=>some (af,a)) (some ((.bool false),a))) (none)) (some ((i.headD undef),a))))
noncomputable def zd0(R:zae)(g a:Value)(j:Hp):Option (Value×Hp):=zaj 1 false (zab a) 2 fun k=>zaf R Aj [g,k] j fun d f=>zaj 1 false (zab a) 0 fun b=>zau (pBin PP .eql Aa b (.int .i64 1) fun l=>zaa l fun m=>br m (some (.next,[(.bool true)],f)) (pBin PP .eql Aa b (.int .i64 2) fun n=>zaa n fun o=>br o (some (.next,[(.bool true)],f)) (pBin PP .geq Aa b (.int .i64 5) fun p=>zaa p fun q=>br q (pBin PP .leq Aa b (.int .i64 13) fun r=>some (.next,[r],f)) (some (.next,[(.bool false)],f))))) fun s h e=>zaH s (zaa (h.getD 0 undef) fun t=>br t (zaj 1 false (zab a) 1 fun u=>pBin PP .eql Aa u (.int .i64 0) fun v=>some (v,e)) (pBin PP .eql Aa b (.int .i64 3) fun w=>zaa w fun x=>br x (zaj 1 false (zab a) 1 fun y=>pBin PP .gtr Aa y (.int .i64 0) fun z=>zaa z fun A=>br A (zaj 1 false (zab a) 1 fun B=>zaj 1 false (zab a) 5 fun C=>zaf R Ae [B,C] e fun D E=>zaj 1 false (zab a) 5 fun F=>pBin PP .eql Ab D F fun G=>some (G,E)) (some ((.bool false),e))) (pBin PP .eql Aa b (.int .i64 4) fun H=>zaa H fun I=>br I (some ((.bool true),e)) (pBin PP .eql Aa b (.int .i64 14) fun J=>zaa J fun K=>br K (zaj 1 false (zab a) 1 fun L=>zaj 1 false (zab a) 3 fun M=>zaf R Aj [g,M] e fun N O=>pBin PP .eql Aa L N fun P=>some (P,O)) (zau (pBin PP .geq Aa b (.int .i64 25) fun Q=>zaa Q fun S=>br S (pBin PP .leq Aa b (.int .i64 29) fun T=>some (.next,[T],e)) (some (.next,[(.bool false)],e))) fun U i c=>zaH U (zaa (i.getD 0 undef) fun V=>br V (zaj 1 false (zab a) 1 fun W=>pBin PP .eql Aa W d fun X=>zaa X fun Y=>br Y (zap .u64 d fun Z=>zaf R AT [Z] c fun aa ab=>pBin PP .eql Aa aa (.int .i64 1) fun ac=>some (ac,ab)) (some ((.bool false),c))) (pBin PP .eql Aa b (.int .i64 30) fun ad=>zaa ad fun ae=>br ae (zaj 1 false (zab a) 1 fun af=>zaj 1 false (zab a) 3 fun ag=>zaf R Aj [g,ag] c fun ah ai=>pBin PP .add Aa d ah fun aj=>pBin PP .eql Aa af aj fun ak=>some (ak,ai)) (pBin PP .eql Aa b (.int .i64 31) fun al=>zaa al fun am=>br am (zaj 1 false (zab a) 1 fun ao=>pBin PP .geq Aa ao (.int .i64 1) fun ap=>zaa ap fun aq=>br aq (zaj 1 false (zab a) 1 fun ar=>pBin PP .leq Aa ar d fun au=>zaa au fun av=>br av (zaj 1 false (zab a) 5 fun aw=>zaj 1 false (zab a) 1 fun ax=>pBin PP .sub Aa d ax fun ay=>zap .u64 ay fun az=>pBin PP .leq Ab aw az fun ba=>some (ba,c)) (some ((.bool false),c))) (some ((.bool false),c))) (pBin PP .eql Aa b (.int .i64 32) fun bb=>zaa bb fun bc=>br bc (zaj 1 false (zab a) 1 fun bd=>pBin PP .geq Aa bd d fun be=>some (be,c)) (pBin PP .eql Aa b (.int .i64 33) fun bf=>zaa bf fun bg=>br bg (zaj 1 false (zab a) 1 fun bh=>pBin PP .geq Aa bh d fun bi=>some (bi,c)) (zaj 1 false (zab a) 1 fun bj=>pBin PP .eql Aa bj d fun bk=>some (bk,c))))))) (fun bl=>zav bl 0 (zaj 1 false (zab a) 1 fun bm=>pBin PP .eql Aa bm d fun bn=>some (bn,c)) (none)) (some ((i.headD undef),c))))))) (fun bo=>zav bo 0 (zaj 1 false (zab a) 1 fun bp=>pBin PP .eql Aa bp d fun bq=>some (bq,e)) (none)) (some ((h.headD undef),e))
noncomputable def zh1(R:zae)(d a:Value)(b:Hp):Option (Value×Hp):=zdf PP .eql Az d fun e=>zaa e fun f=>br f (some ((.bool false),b)) (zau (zdf PP .eql BQ a fun g=>zaa g fun h=>br h (none) (some (.next,[],b))) fun i j c=>zaH i (zaf R B5 [a] c fun k l=>zba 3 [.pointer none,.pointer none,.int .u64 0] 0 k fun m=>zaj 3 true m 0 fun n=>zaf R B6 [n] l fun r s=>zau (none) fun o p q=>zaH o (none) (fun t=>none) (some ((p.headD undef),q))) (fun u=>none) (some ((j.headD undef),c)))
noncomputable def zdB(R:zae)(a b c d:Value)(e:Hp):Option (Value×Hp):=zdM PP orc R Bj Go.Proofs.Tryz.f101 [a,b,c,d] e
noncomputable def zfV(R:zae)(a:Value)(b:Hp):Option (Value×Hp):=zdM PP orc R AJ Go.Proofs.Tryz.f102 [a] b
noncomputable def zer(R:zae)(a:Value)(b:Hp):Option (Value×Hp):=zdM PP orc R Bm Go.Proofs.Tryz.f103 [a] b
noncomputable def zgH(R:zae)(a:Value)(b:Hp):Option (Value×Hp):=pBin PP .geq Aa a (.int .i64 1) fun c=>zaa c fun d=>br d (pBin PP .leq Aa a (.int .i64 64) fun e=>some (e,b)) (some ((.bool false),b))
noncomputable def zfU(R:zae)(a d:Value)(e:Hp):Option (Value×Hp):=zaf R Aq [a] e fun f b=>pUn .not f fun g=>zaa g fun h=>br h (some ((.int .i64 0),b)) (pBin PP .sub Aa (.int .i64 64) a fun i=>zap .u64 i fun c=>pBin PP .shl Ab d c fun j=>zap .i64 j fun k=>pBin PP .shr BN k c fun l=>some (l,b))
noncomputable def zfT(R:zae)(a:Value)(b:Hp):Option (Value×Hp):=pBin PP .geq Aa a (.int .i64 25) fun c=>zaa c fun d=>br d (pBin PP .leq Aa a (.int .i64 29) fun e=>some (e,b)) (some ((.bool false),b))
noncomputable def zes(R:zae)(a:Value)(b:Hp):Option (Value×Hp):=zaf R Bu [a] b fun c d=>some (c,d)
noncomputable def zgF(R:zae)(e a b c:Value)(d:Hp):Option (Value×Hp):=pBin PP .eql Aa e (.int .i64 25) fun g=>zaa g fun h=>br h (zap .u64 c fun i=>pBin PP .shl Ab b i fun j=>zaf R Ae [a,j] d fun k l=>some (k,l)) (pBin PP .eql Aa e (.int .i64 26) fun m=>zaa m fun n=>br n (zap .u64 c fun o=>pBin PP .shr Ab b o fun p=>some (p,d)) (pBin PP .eql Aa e (.int .i64 27) fun q=>zaa q fun r=>br r (zaf R AK [a,b] d fun s t=>zap .u64 c fun u=>pBin PP .shr BN s u fun v=>zap .u64 v fun w=>zaf R Ae [a,w] t fun x y=>some (x,y)) (pBin PP .eql Aa e (.int .i64 29) fun z=>zaa z fun A=>br A (pBin PP .sub Aa a c fun B=>pBin PP .rem Aa B a fun f=>zap .u64 f fun C=>pBin PP .shl Ab b C fun D=>pBin PP .sub Aa a f fun E=>zap .u64 E fun F=>pBin PP .shr Ab b F fun G=>pBin PP .or Ab D G fun H=>zaf R Ae [a,H] d fun I J=>some (I,J)) (zap .u64 c fun K=>pBin PP .shl Ab b K fun L=>pBin PP .sub Aa a c fun M=>zap .u64 M fun N=>pBin PP .shr Ab b N fun O=>pBin PP .or Ab L O fun P=>zaf R Ae [a,P] d fun Q S=>some (Q,S)))))
noncomputable def zeF(R:zae)(d a:Value)(b:Hp):Option (Value×Hp):=pLen .str a b fun g=>pBin PP .eql Aa g (.int .i64 0) fun h=>zaa h fun i=>br i (zaf R B9 [d] b fun j k=>pBin PP .add Aa j (.int .i64 1) fun l=>some (l,k)) (pLen .str a b fun m=>pBin PP .eql Aa m (.int .i64 1) fun n=>zaa n fun o=>br o (zcl a (.int .i64 0) fun p=>zaf R AZ [d,p] b fun q r=>some (q,r)) (zau (zar (fun c s=>zaf R A3 [(c.getD 0 undef),a] s fun f e=>pBin PP .eql Aa f (.int .i64 (-1)) fun t=>zaa t fun u=>br u (some (.ret,[(c.getD 1 undef)],e)) (pBin PP .add Aa (c.getD 1 undef) (.int .i64 1) fun v=>pLen .str a e fun w=>pBin PP .add Aa f w fun x=>za2 (c.getD 0 undef) (some x) none fun y=>some (.next,[y,v],e))) [d,(.int .i64 0)] b) fun z A B=>zaH z none (fun C=>zav C 0 (none) (none)) (some ((A.headD undef),B))))
noncomputable def zeE(R:zae)(a b:Value)(c:Hp):Option (Value×Hp):=zaf R BF [a,b] c fun d e=>some (d,e)
noncomputable def zdi(R:zae)(b c:Value)(d:Hp):Option (Value×Hp):=zaf R Bd [b,c] d fun a e=>zad a 0 fun f=>zad a 1 fun g=>some ((.tuple #[f,g]),e)
noncomputable def zdj(R:zae)(a b c:Value)(h:Hp):Option (Value×Hp):=zaf R A1 [a,b,c] h fun d e=>zad d 0 fun f=>zad d 1 fun g=>zdf PP .neq Az g fun i=>zaa i fun j=>br j (zaf R A2 [(.string ⟨#[80,97,114,115,101,85,105,110,116]⟩),a,b,c,g] e fun k l=>some ((.tuple #[f,k]),l)) (some ((.tuple #[f,.nilIface]),e))
noncomputable def zdC(R:zae)(a:Value)(g:Hp):Option (Value×Hp):=pBin PP .shr Ab a (.int .u64 1) fun h=>pBin PP .and Ab h (.int .u64 6148914691236517205) fun i=>pBin PP .and Ab a (.int .u64 6148914691236517205) fun j=>pBin PP .add Ab i j fun b=>pBin PP .shr Ab b (.int .u64 2) fun k=>pBin PP .and Ab k (.int .u64 3689348814741910323) fun l=>pBin PP .and Ab b (.int .u64 3689348814741910323) fun m=>pBin PP .add Ab l m fun c=>pBin PP .shr Ab c (.int .u64 4) fun n=>pBin PP .add Ab n c fun o=>pBin PP .and Ab o (.int .u64 1085102592571150095) fun d=>pBin PP .shr Ab d (.int .u64 8) fun p=>pBin PP .add Ab d p fun e=>pBin PP .shr Ab e (.int .u64 16) fun q=>pBin PP .add Ab e q fun f=>pBin PP .shr Ab f (.int .u64 32) fun r=>pBin PP .add Ab f r fun s=>zap .i64 s fun t=>pBin PP .and Aa t (.int .i64 127) fun u=>some (u,g)
noncomputable def zbV(R:zae)(a f:Value)(l:Hp):Option (Value×Hp):=pLen .str f l fun h=>zau (zau (pBin PP .eql Aa h (.int .i64 0) fun D=>zaa D fun E=>br E (some (.next,[(.bool true)],l)) (pBin PP .eql Ac f a fun F=>some (.next,[F],l))) fun G p b=>zaH G (zaa (p.getD 0 undef) fun H=>br H (some (.ret,[(.int .i64 0)],b)) (pBin PP .eql Aa h (.int .i64 1) fun I=>zaa I fun J=>br J (zcl f (.int .i64 0) fun K=>zaf R Be [a,K] b fun L M=>some (.ret,[L],M)) (pLen .str a b fun N=>pBin PP .geq Aa h N fun O=>zaa O fun P=>br P (some (.ret,[(.int .i64 (-1))],b)) (zal 1 false b (.pointer (some ⟨BP,0,none⟩)) fun Q=>pBin PP .leq Aa h Q fun S=>zaa S fun T=>br T (pLen .str a b fun U=>pBin PP .leq Aa U (.int .i64 64) fun V=>zaa V fun W=>br W (zaf R BX [a,f] b fun X Y=>some (.ret,[X],Y)) (some (.next,[],b))) (some (.next,[],b)))))) (fun q=>zav q 0 (some (.next,[],b)) (some (.exit q,[],b))) (some (.ret,[(p.headD undef)],b))) fun Z aa m=>zaH Z (zcl f (.int .i64 0) fun r=>zcl f (.int .i64 1) fun ab=>pLen .str a m fun ac=>pBin PP .sub Aa ac h fun ad=>pBin PP .add Aa ad (.int .i64 1) fun n=>zau (zar (fun c o=>pBin PP .lss Aa (c.getD 0 undef) n fun ae=>zaa ae fun af=>br af (zau (zcl a (c.getD 0 undef) fun ag=>pBin PP .neq Ah ag r fun ah=>zaa ah fun ai=>br ai (pBin PP .add Aa (c.getD 0 undef) (.int .i64 1) fun aj=>za2 a (some aj) (some n) fun ak=>zaf R Be [ak,r] o fun s t=>pBin PP .lss Aa s (.int .i64 0) fun al=>zaa al fun am=>br am (some (.ret,[(.int .i64 (-1))],t)) (pBin PP .add Aa s (.int .i64 1) fun ao=>pBin PP .add Aa (c.getD 0 undef) ao fun ap=>some (.next,[ap],t))) (some (.next,[(c.getD 0 undef)],o))) fun aq e j=>zaH aq (zau (pBin PP .add Aa (e.getD 0 undef) (.int .i64 1) fun ar=>zcl a ar fun au=>pBin PP .eql Ah au ab fun av=>zaa av fun aw=>br aw (pBin PP .add Aa (e.getD 0 undef) h fun ax=>za2 a (some (e.getD 0 undef)) (some ax) fun ay=>pBin PP .eql Ac ay f fun az=>zaa az fun ba=>br ba (some (.ret,[(e.getD 0 undef)],j)) (some (.next,[],j))) (some (.next,[],j))) fun bb bc k=>zaH bb (pBin PP .add Aa (e.getD 0 undef) (.int .i64 1) fun d=>pBin PP .add Aa (c.getD 1 undef) (.int .i64 1) fun i=>zau (zal 1 false k (.pointer (some ⟨BP,0,none⟩)) fun bd=>pBin PP .leq Aa h bd fun be=>zaa be fun bf=>br bf (zaf R B3 [d] k fun bg bh=>pBin PP .gtr Aa i bg fun bi=>some (.next,[bi],bh)) (some (.next,[(.bool false)],k))) fun bj u g=>zaH bj (zaa (u.getD 0 undef) fun bk=>br bk (za2 a (some d) none fun bl=>zaf R BX [bl,f] g fun v w=>pBin PP .geq Aa v (.int .i64 0) fun bm=>zaa bm fun bn=>br bn (pBin PP .add Aa v d fun bo=>some (.ret,[bo],w)) (some (.ret,[(.int .i64 (-1))],w))) (zal 1 false g (.pointer (some ⟨BP,0,none⟩)) fun bp=>pBin PP .gtr Aa h bp fun bq=>zaa bq fun bs=>br bs (pBin PP .shr Aa d (.int .u64 4) fun bt=>pBin PP .add Aa (.int .i64 4) bt fun bu=>pBin PP .geq Aa i bu fun bv=>zaa bv fun bw=>br bw (pBin PP .lss Aa d n fun bx=>zaa bx fun bz=>br bz (za2 a (some d) none fun ca=>zaf R B4 [ca,f] g fun x y=>pBin PP .lss Aa x (.int .i64 0) fun cb=>zaa cb fun cc=>br cc (some (.ret,[(.int .i64 (-1))],y)) (pBin PP .add Aa d x fun cd=>some (.ret,[cd],y))) (some (.next,[d,i],g))) (some (.next,[d,i],g))) (some (.next,[d,i],g)))) (fun z=>zav z 2 (some (.next,[d,i],g)) (some (.exit z,[d,i],g))) (some (.ret,[(u.headD undef)],g))) (fun A=>zav A 2 (some (.next,[(e.getD 0 undef),(c.getD 1 undef)],k)) (some (.exit A,[(e.getD 0 undef),(c.getD 1 undef)],k))) (some (.ret,[(bc.headD undef)],k))) (fun B=>zav B 2 (some (.next,[(e.getD 0 undef),(c.getD 1 undef)],j)) (some (.exit B,[(e.getD 0 undef),(c.getD 1 undef)],j))) (some (.ret,[(e.headD undef)],j))) (some (.exit 1,[(c.getD 0 undef),(c.getD 1 undef)],o))) [(.int .i64 0),(.int .i64 0)] m) fun ce cf C=>zaH ce none (fun cg=>zav cg 1 (some ((.int .i64 (-1)),C)) (none)) (some ((cf.headD undef),C))) (fun ch=>none) (some ((aa.headD undef),m))
noncomputable def zbA(R:zae)(a c:Value)(d:Hp):Option (Value×Hp):=zaf R BE [a,c] d fun e b=>pUn .not e fun f=>zaa f fun g=>br g (some ((.tuple #[a,(.bool false)]),b)) (pLen .str c b fun h=>za2 a (some h) none fun i=>some ((.tuple #[i,(.bool true)]),b))
noncomputable def zbW(R:zae)(a b c:Value)(d:Hp):Option (Value×Hp):=zdM PP orc R A1 Go.Proofs.Tryz.f160 [a,b,c] d
noncomputable def zby(R:zae)(a b:Value)(c:Hp):Option (Value×Hp):=zaf R A0 [a,b] c fun d e=>some (d,e)
noncomputable def zbz(R:zae)(c b:Value)(a:Hp):Option (Value×Hp):=pLen .str c a fun d=>pLen .str b a fun e=>pBin PP .geq Aa d e fun f=>zaa f fun g=>br g (pLen .str b a fun h=>za2 c none (some h) fun i=>pBin PP .eql Ac i b fun j=>some (j,a)) (some ((.bool false),a))
noncomputable def zce(R:zae)(a:Value)(b:Hp):Option (Value×Hp):=pBin PP .or Ah a (.int .u8 32) fun c=>some (c,b)
theorem zdW(E:ET)(h:E By=none)(a:Value)(b:Hp):run PP orc E By [a] b=zcg (run PP orc E) a b:=by refine(zay Proofs.Tryz.func7 ?_ ?_ h _ _).trans ?_<;>kernel_rfl
theorem zfi(E:ET)(h:E Bz=none)(a:Hp):run PP orc E Bz [] a=zdl (run PP orc E)  a:=by refine(zay Proofs.Tryz.func12 ?_ ?_ h _ _).trans ?_<;>kernel_rfl
theorem zjV(E:ET)(h:E AN=none)(a b c:Value)(d:Hp):run PP orc E AN [a,b,c] d=zfS (run PP orc E) a b c d:=by refine(zay Proofs.Tryz.func13 ?_ ?_ h _ _).trans ?_<;>kernel_rfl
theorem zgh(E:ET)(h:E Ax=none)(a:Value)(b:Hp):run PP orc E Ax [a] b=zgk (run PP orc E) a b:=by refine(zay Proofs.Tryz.func15 ?_ ?_ h _ _).trans ?_<;>kernel_rfl
theorem zdV(E:ET)(h:E AW=none)(a b:Value)(c:Hp):run PP orc E AW [a,b] c=zcf (run PP orc E) a b c:=by refine(zay Proofs.Tryz.func16 ?_ ?_ h _ _).trans ?_<;>kernel_rfl
theorem zeb(E:ET)(h:E AV=none)(a b:Value)(c:Hp):run PP orc E AV [a,b] c=zcq (run PP orc E) a b c:=by refine(zay Proofs.Tryz.func17 ?_ ?_ h _ _).trans ?_<;>kernel_rfl
theorem zkS(E:ET)(h:E A9=none)(a b c:Value)(d:Hp):run PP orc E A9 [a,b,c] d=zgD (run PP orc E) a b c d:=by refine(zay Proofs.Tryz.func18 ?_ ?_ h _ _).trans ?_<;>kernel_rfl
theorem zfh(E:ET)(h:E A8=none)(a:Value)(b:Hp):run PP orc E A8 [a] b=zdk (run PP orc E) a b:=by refine(zay Proofs.Tryz.func19 ?_ ?_ h _ _).trans ?_<;>kernel_rfl
theorem zl4(E:ET)(h:E AO=none)(a b:Value)(c:Hp):run PP orc E AO [a,b] c=zhZ (run PP orc E) a b c:=by refine(zay Proofs.Tryz.func20 ?_ ?_ h _ _).trans ?_<;>kernel_rfl
theorem zl5(E:ET)(h:E AX=none)(a b:Value)(c:Hp):run PP orc E AX [a,b] c=zh0 (run PP orc E) a b c:=by refine(zay Proofs.Tryz.func24 ?_ ?_ h _ _).trans ?_<;>kernel_rfl
theorem zn7(E:ET)(h:E Bl=none)(a:Value)(b:Hp):run PP orc E Bl [a] b=zjb (run PP orc E) a b:=by refine(zay Proofs.Tryz.func26 ?_ ?_ h _ _).trans ?_<;>kernel_rfl
theorem zn9(E:ET)(h:E AL=none)(a b c d:Value)(e:Hp):run PP orc E AL [a,b,c,d] e=zjd (run PP orc E) a b c d e:=by refine(zay Proofs.Tryz.func29 ?_ ?_ h _ _).trans ?_<;>kernel_rfl
theorem zec(E:ET)(h:E AU=none)(a b:Value)(c:Hp):run PP orc E AU [a,b] c=zcr (run PP orc E) a b c:=by refine(zay Proofs.Tryz.func30 ?_ ?_ h _ _).trans ?_<;>kernel_rfl
theorem zgf(E:ET)(h:E Ao=none)(a b:Value)(c:Hp):run PP orc E Ao [a,b] c=zd1 (run PP orc E) a b c:=by refine(zay Proofs.Tryz.func31 ?_ ?_ h _ _).trans ?_<;>kernel_rfl
theorem zl0(E:ET)(h:E AP=none)(a b:Value)(c:Hp):run PP orc E AP [a,b] c=zhV (run PP orc E) a b c:=by refine(zay Proofs.Tryz.func35 ?_ ?_ h _ _).trans ?_<;>kernel_rfl
theorem zdr(E:ET)(h:E As=none)(a b:Value)(c:Hp):run PP orc E As [a,b] c=zdA (run PP orc E) a b c:=by refine(zay Proofs.Tryz.func38 ?_ ?_ h _ _).trans ?_<;>kernel_rfl
theorem zl1(E:ET)(h:E Bc=none)(a:Value)(b:Hp):run PP orc E Bc [a] b=zhW (run PP orc E) a b:=by refine(zay Proofs.Tryz.func39 ?_ ?_ h _ _).trans ?_<;>kernel_rfl
theorem zl3(E:ET)(h:E BB=none)(a b c d e f:Value)(g:Hp):run PP orc E BB [a,b,c,d,e,f] g=zhY (run PP orc E) a b c d e f g:=by refine(zay Proofs.Tryz.func40 ?_ ?_ h _ _).trans ?_<;>kernel_rfl
theorem zl2(E:ET)(h:E BD=none)(a b:Value)(c:Hp):run PP orc E BD [a,b] c=zhX (run PP orc E) a b c:=by refine(zay Proofs.Tryz.func47 ?_ ?_ h _ _).trans ?_<;>kernel_rfl
theorem zgg(E:ET)(h:E At=none)(a b:Value)(c:Hp):run PP orc E At [a,b] c=zd2 (run PP orc E) a b c:=by refine(zay Proofs.Tryz.func48 ?_ ?_ h _ _).trans ?_<;>kernel_rfl
theorem ziE(E:ET)(h:E Aj=none)(a b:Value)(c:Hp):run PP orc E Aj [a,b] c=ze7 (run PP orc E) a b c:=by refine(zay Proofs.Tryz.func49 ?_ ?_ h _ _).trans ?_<;>kernel_rfl
theorem zht(E:ET)(h:E AG=none)(a b:Value)(c:Hp):run PP orc E AG [a,b] c=zeC (run PP orc E) a b c:=by refine(zay Proofs.Tryz.func50 ?_ ?_ h _ _).trans ?_<;>kernel_rfl
theorem zkR(E:ET)(h:E Ba=none)(a:Value)(b:Hp):run PP orc E Ba [a] b=zgC (run PP orc E) a b:=by refine(zay Proofs.Tryz.func51 ?_ ?_ h _ _).trans ?_<;>kernel_rfl
theorem zjT(E:ET)(h:E AY=none)(a b c d e:Value)(f:Hp):run PP orc E AY [a,b,c,d,e] f=zfQ (run PP orc E) a b c d e f:=by refine(zay Proofs.Tryz.func52 ?_ ?_ h _ _).trans ?_<;>kernel_rfl
theorem zkT(E:ET)(h:E AE=none)(a b:Value)(c:Hp):run PP orc E AE [a,b] c=zgE (run PP orc E) a b c:=by refine(zay Proofs.Tryz.func53 ?_ ?_ h _ _).trans ?_<;>kernel_rfl
theorem zjU(E:ET)(h:E BC=none)(a:Value)(b:Hp):run PP orc E BC [a] b=zfR (run PP orc E) a b:=by refine(zay Proofs.Tryz.func54 ?_ ?_ h _ _).trans ?_<;>kernel_rfl
theorem zl8(E:ET)(h:E AS=none)(a:Value)(b:Hp):run PP orc E AS [a] b=zh3 (run PP orc E) a b:=by refine(zay Proofs.Tryz.func55 ?_ ?_ h _ _).trans ?_<;>kernel_rfl
theorem zkQ(E:ET)(h:E BK=none)(a:Hp):run PP orc E BK [] a=zgB (run PP orc E)  a:=by refine(zay Proofs.Tryz.func60 ?_ ?_ h _ _).trans ?_<;>kernel_rfl
theorem zkP(E:ET)(h:E Au=none)(a:Value)(b:Hp):run PP orc E Au [a] b=zgA (run PP orc E) a b:=by refine(zay Proofs.Tryz.func62 ?_ ?_ h _ _).trans ?_<;>kernel_rfl
theorem zhu(E:ET)(h:E Bi=none)(a b:Value)(c:Hp):run PP orc E Bi [a,b] c=zeD (run PP orc E) a b c:=by refine(zay Proofs.Tryz.func65 ?_ ?_ h _ _).trans ?_<;>kernel_rfl
theorem ze1(E:ET)(h:E AF=none)(a b:Value)(c:Hp):run PP orc E AF [a,b] c=zc1 (run PP orc E) a b c:=by refine(zay Proofs.Tryz.func67 ?_ ?_ h _ _).trans ?_<;>kernel_rfl
theorem zjS(E:ET)(h:E Ay=none)(a:Value)(b:Hp):run PP orc E Ay [a] b=zfP (run PP orc E) a b:=by refine(zay Proofs.Tryz.func68 ?_ ?_ h _ _).trans ?_<;>kernel_rfl
theorem zdq(E:ET)(h:E Ap=none)(a:Value)(b:Hp):run PP orc E Ap [a] b=zco (run PP orc E) a b:=by refine(zay Proofs.Tryz.func69 ?_ ?_ h _ _).trans ?_<;>kernel_rfl
theorem zfG(E:ET)(h:E Bn=none)(a:Value)(b:Hp):run PP orc E Bn [a] b=zdy (run PP orc E) a b:=by refine(zay Proofs.Tryz.func70 ?_ ?_ h _ _).trans ?_<;>kernel_rfl
theorem ze0(E:ET)(h:E Al=none)(a:Value)(b:Hp):run PP orc E Al [a] b=zc0 (run PP orc E) a b:=by refine(zay Proofs.Tryz.func71 ?_ ?_ h _ _).trans ?_<;>kernel_rfl
theorem zfH(E:ET)(h:E AH=none)(a:Value)(b:Hp):run PP orc E AH [a] b=zdz (run PP orc E) a b:=by refine(zay Proofs.Tryz.func72 ?_ ?_ h _ _).trans ?_<;>kernel_rfl
theorem zl7(E:ET)(h:E Ae=none)(a b:Value)(c:Hp):run PP orc E Ae [a,b] c=zh2 (run PP orc E) a b c:=by refine(zay Proofs.Tryz.func80 ?_ ?_ h _ _).trans ?_<;>kernel_rfl
theorem zn8(E:ET)(h:E Bb=none)(a:Value)(b:Hp):run PP orc E Bb [a] b=zjc (run PP orc E) a b:=by refine(zay Proofs.Tryz.func81 ?_ ?_ h _ _).trans ?_<;>kernel_rfl
theorem zob(E:ET)(h:E Br=none)(a b c d:Value)(e:Hp):run PP orc E Br [a,b,c,d] e=zjf (run PP orc E) a b c d e:=by refine(zay Proofs.Tryz.func82 ?_ ?_ h _ _).trans ?_<;>kernel_rfl
theorem r_bits_Un(E:ET)(h:E Bw=none)(a b c:Value)(d:Hp):run PP orc E Bw [a,b,c] d=zlk (run PP orc E) a b c d:=by refine(zay Proofs.Tryz.func83 ?_ ?_ h _ _).trans ?_<;>kernel_rfl
theorem zod(E:ET)(h:E Bp=none)(a b c d:Value)(e:Hp):run PP orc E Bp [a,b,c,d] e=zjh (run PP orc E) a b c d e:=by refine(zay Proofs.Tryz.func84 ?_ ?_ h _ _).trans ?_<;>kernel_rfl
theorem zoc(E:ET)(h:E Bq=none)(a b c d:Value)(e:Hp):run PP orc E Bq [a,b,c,d] e=zjg (run PP orc E) a b c d e:=by refine(zay Proofs.Tryz.func85 ?_ ?_ h _ _).trans ?_<;>kernel_rfl
theorem zkV(E:ET)(h:E Bv=none)(a b c d:Value)(e:Hp):run PP orc E Bv [a,b,c,d] e=zgG (run PP orc E) a b c d e:=by refine(zay Proofs.Tryz.func86 ?_ ?_ h _ _).trans ?_<;>kernel_rfl
theorem zoa(E:ET)(h:E Bs=none)(a b c d:Value)(e:Hp):run PP orc E Bs [a,b,c,d] e=zje (run PP orc E) a b c d e:=by refine(zay Proofs.Tryz.func87 ?_ ?_ h _ _).trans ?_<;>kernel_rfl
theorem zkO(E:ET)(h:E BL=none)(a:Value)(b:Hp):run PP orc E BL [a] b=zgz (run PP orc E) a b:=by refine(zay Proofs.Tryz.func93 ?_ ?_ h _ _).trans ?_<;>kernel_rfl
theorem zfe(E:ET)(h:E BH=none)(a b:Value)(c:Hp):run PP orc E BH [a,b] c=zdh (run PP orc E) a b c:=by refine(zay Proofs.Tryz.func94 ?_ ?_ h _ _).trans ?_<;>kernel_rfl
theorem zge(E:ET)(h:E BJ=none)(a b:Value)(c:Hp):run PP orc E BJ [a,b] c=zd0 (run PP orc E) a b c:=by refine(zay Proofs.Tryz.func95 ?_ ?_ h _ _).trans ?_<;>kernel_rfl
theorem zl6(E:ET)(h:E BA=none)(a b:Value)(c:Hp):run PP orc E BA [a,b] c=zh1 (run PP orc E) a b c:=by refine(zay Proofs.Tryz.func96 ?_ ?_ h _ _).trans ?_<;>kernel_rfl
theorem zfI(E:ET)(h:E Bj=none)(a b c d:Value)(e:Hp):run PP orc E Bj [a,b,c,d] e=zdB (run PP orc E) a b c d e:=by refine(zay Proofs.Tryz.func101 ?_ ?_ h _ _).trans ?_<;>kernel_rfl
theorem zjY(E:ET)(h:E AJ=none)(a:Value)(b:Hp):run PP orc E AJ [a] b=zfV (run PP orc E) a b:=by refine(zay Proofs.Tryz.func102 ?_ ?_ h _ _).trans ?_<;>kernel_rfl
theorem zgQ(E:ET)(h:E Bm=none)(a:Value)(b:Hp):run PP orc E Bm [a] b=zer (run PP orc E) a b:=by refine(zay Proofs.Tryz.func103 ?_ ?_ h _ _).trans ?_<;>kernel_rfl
theorem zkW(E:ET)(h:E Aq=none)(a:Value)(b:Hp):run PP orc E Aq [a] b=zgH (run PP orc E) a b:=by refine(zay Proofs.Tryz.func114 ?_ ?_ h _ _).trans ?_<;>kernel_rfl
theorem zjX(E:ET)(h:E AK=none)(a b:Value)(c:Hp):run PP orc E AK [a,b] c=zfU (run PP orc E) a b c:=by refine(zay Proofs.Tryz.func115 ?_ ?_ h _ _).trans ?_<;>kernel_rfl
theorem zjW(E:ET)(h:E A7=none)(a:Value)(b:Hp):run PP orc E A7 [a] b=zfT (run PP orc E) a b:=by refine(zay Proofs.Tryz.func116 ?_ ?_ h _ _).trans ?_<;>kernel_rfl
theorem zgR(E:ET)(h:E AT=none)(a:Value)(b:Hp):run PP orc E AT [a] b=zes (run PP orc E) a b:=by refine(zay Proofs.Tryz.func117 ?_ ?_ h _ _).trans ?_<;>kernel_rfl
theorem zkU(E:ET)(h:E A6=none)(a b c d:Value)(e:Hp):run PP orc E A6 [a,b,c,d] e=zgF (run PP orc E) a b c d e:=by refine(zay Proofs.Tryz.func118 ?_ ?_ h _ _).trans ?_<;>kernel_rfl
theorem zhw(E:ET)(h:E Bg=none)(a b:Value)(c:Hp):run PP orc E Bg [a,b] c=zeF (run PP orc E) a b c:=by refine(zay Proofs.Tryz.func135 ?_ ?_ h _ _).trans ?_<;>kernel_rfl
theorem zhv(E:ET)(h:E A3=none)(a b:Value)(c:Hp):run PP orc E A3 [a,b] c=zeE (run PP orc E) a b c:=by refine(zay Proofs.Tryz.func136 ?_ ?_ h _ _).trans ?_<;>kernel_rfl
theorem zff(E:ET)(h:E BG=none)(a b:Value)(c:Hp):run PP orc E BG [a,b] c=zdi (run PP orc E) a b c:=by refine(zay Proofs.Tryz.func137 ?_ ?_ h _ _).trans ?_<;>kernel_rfl
theorem zfg(E:ET)(h:E Bf=none)(a b c:Value)(d:Hp):run PP orc E Bf [a,b,c] d=zdj (run PP orc E) a b c d:=by refine(zay Proofs.Tryz.func138 ?_ ?_ h _ _).trans ?_<;>kernel_rfl
theorem zfJ(E:ET)(h:E Bu=none)(a:Value)(b:Hp):run PP orc E Bu [a] b=zdC (run PP orc E) a b:=by refine(zay Proofs.Tryz.func143 ?_ ?_ h _ _).trans ?_<;>kernel_rfl
theorem zc5(E:ET)(h:E BF=none)(a b:Value)(c:Hp):run PP orc E BF [a,b] c=zbV (run PP orc E) a b c:=by refine(zay Proofs.Tryz.func158 ?_ ?_ h _ _).trans ?_<;>kernel_rfl
theorem zcz(E:ET)(h:E Bd=none)(a b:Value)(c:Hp):run PP orc E Bd [a,b] c=zbA (run PP orc E) a b c:=by refine(zay Proofs.Tryz.func159 ?_ ?_ h _ _).trans ?_<;>kernel_rfl
theorem zbU(E:ET)(h:E A1=none)(a b c:Value)(d:Hp):run PP orc E A1 [a,b,c] d=zbW (run PP orc E) a b c d:=by refine(zay Proofs.Tryz.func160 ?_ ?_ h _ _).trans ?_<;>kernel_rfl
theorem zcx(E:ET)(h:E Be=none)(a b:Value)(c:Hp):run PP orc E Be [a,b] c=zby (run PP orc E) a b c:=by refine(zay Proofs.Tryz.func171 ?_ ?_ h _ _).trans ?_<;>kernel_rfl
theorem zcy(E:ET)(h:E BE=none)(a b:Value)(c:Hp):run PP orc E BE [a,b] c=zbz (run PP orc E) a b c:=by refine(zay Proofs.Tryz.func175 ?_ ?_ h _ _).trans ?_<;>kernel_rfl
theorem zdU(E:ET)(h:E Ar=none)(a:Value)(b:Hp):run PP orc E Ar [a] b=zce (run PP orc E) a b:=by refine(zay Proofs.Tryz.func176 ?_ ?_ h _ _).trans ?_<;>kernel_rfl
end Go.AM
namespace Go.AM
open List Go
def ccB(i:Nat)(H:Hp):Option AObj→Option (Value×Hp)
 |some (.cells [.pointer none,v] true)=>if H.ty i=some AQ then some (.tuple #[],H.set i (some (.cells [.pointer (some ⟨i,0,none⟩),v] true))) else none
 |some (.cells [.pointer (some ⟨j,0,none⟩),v] true)=>if j=i∧H.ty i=some AQ then some (.tuple #[],H) else none
 |_=>none
def extCC(l:List Value)(H:Hp):Option (Value×Hp):=
 match l with
 |[.pointer (some ⟨i,0,none⟩)]=>ccB i H (H.get i)
 |_=>none
def znT:List Value→Option (List UInt8)
 |[]=>some []
 |.int .u8 (.ofNat n)::r=>if n<256 then (match znT r with
  |some l=>some (UInt8.ofNat n::l)
  |none=>none) else none
 |_=>none
def strB2(i j n:Nat)(H:Hp):Option AObj→Option (Value×Hp)
 |some (.cells cs true)=>if H.ty i=some AQ∧H.ty j=some Ah∧0<n∧n≤cs.length∧n≤2^60 then (match znT (cs.take n) with
  |some l=>some (.string ⟨l.toArray⟩,H.set j (some (.cells cs false)))
  |none=>none) else none
 |_=>none
def strB(i:Nat)(H:Hp):Option AObj→Option (Value×Hp)
 |some (.cells [_,.slice none 0 0] _)=>if H.ty i=some AQ then some (.string ⟨#[]⟩,H) else none
 |some (.cells [_,.slice (some ⟨j,0,some 1⟩) n c] _)=>strB2 i j n H (H.get j)
 |_=>none
def extStr(l:List Value)(H:Hp):Option (Value×Hp):=
 match l with
 |[.pointer (some ⟨i,0,none⟩)]=>strB i H (H.get i)
 |_=>none
theorem zgN:∀(cs:List Value) (l:List UInt8),znT cs=some l→cs=l.map fun b=>Value.int .u8 (b.toNat:Int)
 |[],l,h=>by cases h;rfl
 |v::r,l,h=>by
  unfold znT at h;split at h
  ·rename_i q;cases q
  ·rename_i n r' q;cases q;split at h
   ·rename_i hn;split at h
    ·rename_i l' hl;cases h;rw[map_cons,←zgN _ _ hl];have:(UInt8.ofNat n).toNat=n:=by simp[UInt8.toNat_ofNat];omega
     rw[this];rfl
    ·cases h
   ·cases h
  ·cases h
theorem LRel.single{β:Bt}{a:Value}{l:List Value}(h:LRel β [a] l):∃a',l=[a']∧VRel β a a':=by
 obtain⟨hl,hv⟩:=h
 match l,hl with
 |[x],_=>exact⟨x,rfl,hv 0 _ _ rfl rfl⟩
theorem zm1{w:World}{b:Nat}{arr:Array Value}{e:TypeId}{fz:Nat×Nat}(h:w.heap[b]?=some (.cells arr e fz)):w.shape? b=some (e,arr.size):=by unfold World.shape?;rw[h]
theorem zls(w:World)(b n:Nat):(w.freeze ⟨b,0,none⟩ n).heap.size=w.heap.size∧(∀k,k≠b→(w.freeze ⟨b,0,none⟩ n).heap[k]?=w.heap[k]?) ∧
  (∀arr e fz,w.heap[b]?=some (.cells arr e fz)→∃fz',(w.freeze ⟨b,0,none⟩ n).heap[b]?=some (.cells arr e fz'))∧(w.freeze ⟨b,0,none⟩ n).os=w.os∧(w.freeze ⟨b,0,none⟩ n).tape=w.tape∧(w.freeze ⟨b,0,none⟩ n).output=w.output:=by
 unfold World.freeze;split
 ·exact⟨rfl,fun _ _=>rfl,fun arr e fz h=>⟨fz,h⟩,rfl,rfl,rfl⟩
 ·refine⟨by simp,fun k hk=>?_,fun arr e fz h=>?_,rfl,rfl,rfl⟩
  ·simp only[Array.getElem?_modify];rw[if_neg (by omega)]
  ·simp only[Array.getElem?_modify,if_true,h,Option.map_some];exact⟨_,rfl⟩
theorem extCC_ok{args:List Value}{H:Hp}{v:Value}{H':Hp}(he:extCC args H=some (v,H')){args':List Value}{w:World}{β:Bt}(hl:LRel β args args')(hR:Rel PP w H β) :
  Calls PP B0 args'.toArray w fun x w'=>∃v' β',x=.returned v'∧Rel PP w' H' β'∧Ext w.heap.size w H β w' H' β'∧VRel β' v v':=by
 have key:∀(i:Nat) (p u:Value),H.get i=some (.cells [p,u] true)→H.ty i=some AQ→∀x,β i=some x→x.s=0∧∃arr fz,w.heap[x.b]?=some (.cells arr AQ fz)∧arr.size=x.t∧2≤arr.size∧(∀j,j<x.t→¬(fz.1≤j∧j<fz.2)) ∧
   ∃p',w.cell? ⟨x.b,0,none⟩=some p'∧VRel β p p':=by
  intro i p u hg hty x hx;obtain⟨x',hx',h1,h2⟩:=hR.cells i _ true hg;rw[hx]at hx';cases hx';obtain⟨⟨arr,e,fz,g1,g2,g3⟩,g4⟩:=h2 rfl;obtain⟨x2,arr2,fz2,hx2,hs0,g5,g6⟩:=hR.tys i _ hty;rw[hx]at hx2;cases hx2;rw[g1]at g5;cases g5;obtain⟨p',a1,a2⟩:=h1 0 p rfl;rw[hs0]at a1 g4;have g4:0+2≤x.t:=g4;exact⟨hs0,arr,fz,g1,g2,by omega,g3,p',a1,a2⟩
 unfold extCC at he;split at he
 ·rename_i i;obtain⟨a',rfl,ha⟩:=hl.single;cases ha with
  |ptr _ _ x hx=>
  unfold ccB at he;split at he
  ·rename_i u hg;split at he
   ·rename_i hty;cases he;obtain⟨hs0,arr,fz,g1,g2,g3,g4,p',c0,r0⟩:=key i _ _ hg hty x hx;cases r0;have hput:=zhj w x.b 0 (.pointer (some ⟨x.b,0,none⟩)) arr _ fz g1 (by omega);have hfz:w.frozen? ⟨x.b,0,none⟩=false:=zgK g1 (g4 0 (by omega));have hcall:=cc_fresh x.b arr.size g3 w c0 (zm1 g1) hfz;rw[hs0];refine hcall.mono fun e w' ⟨h1,h2⟩=>?_;subst h2;have hv:LRel β [Value.pointer (some ⟨i,0,none⟩)] [Value.pointer (some ⟨x.b,0,none⟩)]:=by have:=VRel.ptr (β:=β) i 0 x hx;rw[hs0]at this;exact LRel.cons this (LRel.nil _)
    obtain⟨k1,k2⟩:=hR.write hg hx (off:=0) (vs:=[Value.pointer (some ⟨i,0,none⟩)]) (vs':=[Value.pointer (some ⟨x.b,0,none⟩)]) (by simp) hv (by rw[hs0];exact hput);exact⟨_,β,h1,k1,k2,.tuple [] [] rfl (fun k v v' h=>by cases h)⟩
   ·cases he
  ·rename_i j u hg;split at he
   ·rename_i hj;cases he;obtain⟨rfl,hty⟩:=hj;obtain⟨hs0,arr,fz,g1,g2,g3,g4,p',c0,r0⟩:=key _ _ _ hg hty x hx;cases r0 with
    |ptr _ _ y hy=>
    rw[hx]at hy;cases hy;rw[hs0]at c0 ⊢;refine(cc_used x.b w c0).mono fun e w' ⟨h1,h2⟩=>?_;subst h2;exact⟨_,β,h1,hR,Ext.refl _ _ _ _,.tuple [] [] rfl (fun k v v' h=>by cases h)⟩
   ·cases he
  ·cases he
 ·cases he
theorem extStr_ok{args:List Value}{H:Hp}{v:Value}{H':Hp}(he:extStr args H=some (v,H')){args':List Value}{w:World}{β:Bt}(hl:LRel β args args')(hR:Rel PP w H β) :
  Calls PP BZ args'.toArray w fun x w'=>∃v' β',x=.returned v'∧Rel PP w' H' β'∧Ext w.heap.size w H β w' H' β'∧VRel β' v v':=by
 have zero:∀i x,H.ty i=some AQ→β i=some x→x.s=0:=fun i x hty hx=>by obtain⟨x2,arr2,fz2,hx2,hs0,_⟩:=hR.tys i _ hty;rw[hx]at hx2;cases hx2;exact hs0
 unfold extStr at he;split at he
 ·rename_i i;obtain⟨a',rfl,ha⟩:=hl.single;cases ha with
  |ptr _ _ x hx=>
  unfold strB at he;split at he
  ·rename_i p own hg;split at he
   ·rename_i hty;cases he;have hs0:=zero i x hty hx;obtain⟨x',hx',h1,_⟩:=hR.cells i _ _ hg;rw[hx]at hx';cases hx';obtain⟨v',c1,r1⟩:=h1 1 _ rfl;cases r1;rw[hs0]at c1 ⊢;refine(str_nil x.b w c1).mono fun e w' ⟨g1,g2,g3,g4,g5⟩=>?_;have hw:∀b:Nat,w'.heap[b]?=w.heap[b]?:=fun b=>by rw[g2]
    exact⟨_,β,g1,hR.frame (by rw[g2];exact Nat.le_refl _) (fun _ _ _=>hw _),⟨g3,g4,g5,by rw[g2];exact Nat.le_refl _,Bt.le_refl _,Nat.le_refl _,fun b _ _=>hw b,fun b q=>.inr q,fun i x hx hn=>by rw[hn]at hx;cases hx⟩,.string _⟩
   ·cases he
  ·rename_i p j n c own hg;unfold strB2 at he;split at he
   ·rename_i cs hgj;split at he
    ·rename_i hc;obtain⟨hty,htj,hn0,hn,hn60⟩:=hc;split at he
     ·rename_i l hb;cases he;have hs0:=zero i x hty hx;obtain⟨x',hx',h1,_⟩:=hR.cells i _ _ hg;rw[hx]at hx';cases hx';obtain⟨v',c1,r1⟩:=h1 1 _ rfl;cases r1 with
      |slice _ _ _ _ _ y o' c' hy hnc hcc ht hoo=>
      obtain⟨y2,arr,fz,hy2,ys0,k1,k2⟩:=hR.tys j _ htj;rw[hy]at hy2;cases hy2;have ho':o'=0:=by have:=hoo (by omega);omega
      subst ho';have hcl:=zgN _ _ hb;have hlen:l.length=n:=by have:=congrArg List.length hcl;rw[length_take,length_map]at this;omega
      obtain⟨y3,hy3,m1,m2⟩:=hR.cells j _ _ hgj;rw[hy]at hy3;cases hy3;obtain⟨_,m3⟩:=m2 rfl;have hcell:∀q b,l[q]?=some b→w.cell? ((⟨y.b,0,none⟩:Addr).add q)=some (.int .u8 b.toNat):=fun q b hq=>by
       have hq':cs[q]?=some (.int .u8 (b.toNat:Int)):=by
        have e1:(cs.take n)[q]?=some (Value.int .u8 (b.toNat:Int)):=by rw[hcl,List.getElem?_map,hq];rfl
        rw[List.getElem?_take]at e1;split at e1
        ·exact e1
        ·cases e1
       obtain⟨v2,d1,d2⟩:=m1 q _ hq';cases d2;have ea:(⟨y.b,0,none⟩:Addr).add q=⟨y.b,y.s+q,none⟩:=by rw[ys0];unfold Addr.add;split<;>simp_all
       rw[ea];exact d1
      rw[hs0]at c1 ⊢;rw[←hlen]at c1;have hne:l≠[]:=fun q=>by rw[q]at hlen;simp at hlen;omega
      refine(str_row x.b y.b c' arr.size l hne (by omega) (by omega) (by omega) w c1 (zm1 k1) hcell).mono fun e w' ⟨g1,w0,g2,g3,g4,g5,g6⟩=>?_;subst g6;obtain⟨f1,f2,f3,f4,f5,f6⟩:=zls w0 y.b l.length;obtain⟨q1,q2⟩:=hR.freeze (w':=w0.freeze ⟨y.b,0,none⟩ l.length) hgj hy (f4.trans g3) (f5.trans g4) (f6.trans g5) (by rw[f1,g2]) (fun k hk=>by rw[f2 k hk,g2]) (fun arr e fz hh=>f3 arr e fz (by rw[g2];exact hh));exact⟨_,β,g1,q1,q2,.string _⟩
     ·cases he
    ·cases he
   ·cases he
  ·cases he
 ·cases he
end Go.AM
namespace Go.AM
open Go Go.AM
noncomputable def zaE(R:zae)(b:Value)(a:List Value)(c:Hp):Option Outc:=pLen .sl b c fun d=>pBin PP .lss Aa (a.getD 0 undef) d fun e=>zaa e fun f=>br f (pIdx 3 b (a.getD 0 undef) fun g=>zas 0 g fun h=>zan 1 c h (.string ⟨#[120]⟩) fun i=>pIdx 3 b (a.getD 0 undef) fun j=>zas 1 j fun k=>zan 1 i k (.int .i64 (-1)) fun l=>pBin PP .add Aa (a.getD 0 undef) (.int .i64 1) fun m=>some (.next,[m],l)) (some (.exit 0,[(a.getD 0 undef)],c))
noncomputable def zaD(R:zae)(c:Value)(a:List Value)(b:Hp):Option Outc:=pLen .sl c b fun d=>pBin PP .lss Aa (a.getD 0 undef) d fun e=>zaa e fun f=>br f (pIdx 1 c (a.getD 0 undef) fun g=>zan 1 b g (.int .i64 (-1)) fun h=>pBin PP .add Aa (a.getD 0 undef) (.int .i64 1) fun i=>some (.next,[i],h)) (some (.exit 2,[(a.getD 0 undef)],b))
theorem zd5(R:zae)(f:Value)(g:Hp):zcg R f g =
zaf R Bz [] g fun A h=>pUn .not A fun B=>zaa B fun C=>br C (some ((.bool false),h)) (zaf R A8 [f] h fun d i=>zad d 0 fun c=>zad d 1 fun e=>zad d 2 fun D=>pUn .not D fun E=>zaa E fun F=>br F (some ((.bool true),i)) (zak 1 [.int .i64 0] 0 [] i fun G H=>zaA 1 8 G e H fun b I=>zaf R AO [c,b] I fun j J=>zad j 0 fun k=>zad j 1 fun bi=>zaf R AO [c,b] J fun l K=>zad l 0 fun m=>zad l 1 fun bj=>zaf R AL [c,b,(.slice none 0 0),(.slice none 0 0)] K fun n L=>zad n 0 fun o=>zad n 1 fun bk=>zaf R AL [c,b,(.slice none 0 0),(.slice none 0 0)] L fun p M=>zad p 0 fun N=>zad p 1 fun bl=>zak 3 [.string ⟨#[]⟩,.int .i64 0,.int .u64 0] 0 [] M fun O P=>zaA 3 32 O m P fun q Q=>zau (zar (zaE R k) [(.int .i64 0)] Q) fun S T r=>zaH S none (fun U=>zav U 0 (zaz PP Ak [(0,(.string ⟨#[121]⟩))] fun V=>zak 3 [.string ⟨#[]⟩,.int .i64 0,.int .u64 0] 1 [(0,V)] r fun W X=>zaA 3 32 k W X fun s Y=>zau (zar (zaD R o) [(.int .i64 0)] Y) fun Z aa t=>zaH Z none (fun ab=>zav ab 2 (zak 1 [.int .i64 0] 1 [(0,(.int .i64 5))] t fun ac ad=>zaA 1 8 o ac ad fun u ae=>zaf R AO [c,b] ae fun v af=>zad v 0 fun ag=>zad v 1 fun ah=>zaf R Ax [ah] af fun ai w=>pBin PP .eql Aa ai (.int .i64 0) fun aj=>zaa aj fun ak=>br ak (zaf R AV [m,q] w fun al x=>zaa al fun am=>br am (zaf R AV [ag,q] x fun ao y=>zaa ao fun ap=>br ap (zaf R AU [N,e] y fun aq z=>zaa aq fun ar=>br ar (zaf R AU [b,e] z fun au a=>zaa au fun av=>br av (pLen .sl s a fun aw=>pBin PP .sub Aa aw (.int .i64 1) fun ax=>pIdx 3 s ax fun ay=>zas 0 ay fun az=>zal 1 false a az fun ba=>pBin PP .eql Ac ba (.string ⟨#[121]⟩) fun bb=>zaa bb fun bc=>br bc (pLen .sl u a fun bd=>pBin PP .sub Aa bd (.int .i64 1) fun be=>pIdx 1 u be fun bf=>zal 1 false a bf fun bg=>pBin PP .eql Aa bg (.int .i64 5) fun bh=>some (bh,a)) (some ((.bool false),a))) (some ((.bool false),a))) (some ((.bool false),z))) (some ((.bool false),y))) (some ((.bool false),x))) (some ((.bool false),w))) (none)) (some ((aa.headD undef),t))) (none)) (some ((T.headD undef),r)))):=by kernel_rfl
noncomputable def zax(R:zae)(k:Value)(l:Value)(m:Value)(d:Value)(f:Value)(n:Value)(c:List Value)(g:Hp):Option Outc:=pBin PP .lss Aa (c.getD 0 undef) n fun o=>zaa o fun p=>br p (pIdx 1 l (c.getD 0 undef) fun q=>zal 1 false g q fun e=>zaf R Ao [k,e] g fun h r=>zad h 0 fun s=>zad h 1 fun Z=>zba 7 [.int .i64 0,.int .i64 0,.int .i64 0,.int .i64 0,.int .i64 0,.int .u64 0,.string ⟨#[]⟩] 0 s fun a=>zaj 1 false a 1 fun t=>pUpd PP Aa f e t r fun b=>zaj 1 false a 0 fun u=>pBin PP .neq Aa u (.int .i64 4) fun v=>zaa v fun w=>br w (zaj 7 true a 0 fun x=>zaj 1 false a 2 fun y=>zaZ PP Aa (.int .u64 0) d y false b fun z=>zaj 1 false a 3 fun A=>zaZ PP Aa (.int .u64 0) d A false b fun B=>zaj 1 false a 4 fun C=>zaZ PP Aa (.int .u64 0) d C false b fun D=>zaj 1 false a 2 fun E=>zaZ PP Aa (.int .i64 0) f E false b fun F=>zaj 1 false a 3 fun G=>zaZ PP Aa (.int .i64 0) f G false b fun H=>zaf R BB [x,z,B,D,F,H] b fun I J=>pUpd PP Aa d e I J fun K=>pBin PP .add Aa (c.getD 0 undef) (.int .i64 1) fun L=>some (.next,[L],K)) (zaj 1 false a 6 fun M=>zaZ PP Ac (.agg #[.string ⟨#[]⟩,.int .i64 0,.int .u64 0]) m M true b fun i=>zad i 0 fun N=>zad i 1 fun O=>zba 3 [.string ⟨#[]⟩,.int .i64 0,.int .u64 0] 0 N fun j=>zaa O fun P=>br P (zaj 1 false j 1 fun Q=>zaj 1 false a 1 fun S=>pBin PP .neq Aa Q S fun T=>zaa T fun U=>br U (some (.ret,[(.tuple #[(.slice none 0 0),(.int .i64 71)])],b)) (zaj 1 false j 2 fun V=>pUpd PP Aa d e V b fun W=>pBin PP .add Aa (c.getD 0 undef) (.int .i64 1) fun X=>some (.next,[X],W))) (pBin PP .add Aa (c.getD 0 undef) (.int .i64 1) fun Y=>some (.next,[Y],b)))) (some (.exit 0,[(c.getD 0 undef)],g))
noncomputable def zbk(R:zae)(c:Value)(d:Value)(e:Value)(a:List Value)(b:Hp):Option Outc:=pBin PP .lss Aa (a.getD 1 undef) e fun f=>zaa f fun g=>br g (pIdx 1 c (a.getD 1 undef) fun h=>zal 1 false b h fun i=>zaZ PP Aa (.int .u64 0) d i false b fun j=>zak 1 [.int .u64 0] 1 [(0,j)] b fun k l=>zaA 1 8 (a.getD 0 undef) k l fun m n=>pBin PP .add Aa (a.getD 1 undef) (.int .i64 1) fun o=>some (.next,[m,o],n)) (some (.exit 2,[(a.getD 0 undef),(a.getD 1 undef)],b))
theorem zkd(R:zae)(b a g:Value)(d:Hp):zfS R b a g d =
pBin PP .eql An b (.pointer none) fun s=>zaa s fun t=>br t (some ((.tuple #[(.slice none 0 0),(.int .i64 2)]),d)) (zaf R As [b,a] d fun h i=>zad h 0 fun c=>zad h 1 fun j=>pBin PP .neq Ai j (.int .i64 0) fun u=>zaa u fun v=>br v (some ((.tuple #[(.slice none 0 0),j]),i)) (zaf R Bc [g] i fun k e=>zad k 0 fun w=>zad k 1 fun l=>pBin PP .neq Ai l (.int .i64 0) fun x=>zaa x fun y=>br y (some ((.tuple #[(.slice none 0 0),l]),e)) (pLen .sl c e fun z=>zed z (zbv e fun m n=>pLen .sl c n fun A=>zed A (zbv n fun B o=>pLen .sl c o fun C=>zau (zar (zax R b c w m B C) [(.int .i64 0)] o) fun D E f=>zaH D none (fun F=>zav F 0 (pLen .sl a f fun G=>zaR 1 8 [.int .u64 0] (.int .i64 0) G f fun H p=>pLen .sl a p fun I=>zau (zar (zbk R a m I) [H,(.int .i64 0)] p) fun J q r=>zaH J none (fun K=>zav K 2 (some ((.tuple #[(q.getD 0 undef),(.int .i64 0)]),r)) (none)) (some ((q.headD undef),r))) (none)) (some ((E.headD undef),f))))))):=by kernel_rfl
noncomputable def za3(R:zae)(c:Value)(d:Value)(b:List Value)(a:Hp):Option Outc:=pLen .sl c a fun e=>pBin PP .lss Aa (b.getD 0 undef) e fun f=>zaa f fun g=>br g (pIdx 1 c (b.getD 0 undef) fun h=>zal 1 false a h fun i=>pIdx 1 d (b.getD 0 undef) fun j=>zal 1 false a j fun k=>pBin PP .neq Ab i k fun l=>zaa l fun m=>br m (some (.ret,[(.bool false)],a)) (pBin PP .add Aa (b.getD 0 undef) (.int .i64 1) fun n=>some (.next,[n],a))) (some (.exit 0,[(b.getD 0 undef)],a))
theorem zd4(R:zae)(b c:Value)(a:Hp):zcf R b c a =
pLen .sl b a fun e=>pLen .sl c a fun f=>pBin PP .neq Aa e f fun g=>zaa g fun h=>br h (some ((.bool false),a)) (zau (zar (za3 R b c) [(.int .i64 0)] a) fun i j d=>zaH i none (fun k=>zav k 0 (some ((.bool true),d)) (none)) (some ((j.headD undef),d))):=by kernel_rfl
noncomputable def za6(R:zae)(c:Value)(d:Value)(b:List Value)(a:Hp):Option Outc:=pLen .sl c a fun e=>pBin PP .lss Aa (b.getD 0 undef) e fun f=>zaa f fun g=>br g (pIdx 3 c (b.getD 0 undef) fun h=>zal 3 true a h fun i=>pIdx 3 d (b.getD 0 undef) fun j=>zal 3 true a j fun k=>pBin PP .neq Ak i k fun l=>zaa l fun m=>br m (some (.ret,[(.bool false)],a)) (pBin PP .add Aa (b.getD 0 undef) (.int .i64 1) fun n=>some (.next,[n],a))) (some (.exit 0,[(b.getD 0 undef)],a))
theorem zee(R:zae)(b c:Value)(a:Hp):zcq R b c a =
pLen .sl b a fun e=>pLen .sl c a fun f=>pBin PP .neq Aa e f fun g=>zaa g fun h=>br h (some ((.bool false),a)) (zau (zar (za6 R b c) [(.int .i64 0)] a) fun i j d=>zaH i none (fun k=>zav k 0 (some ((.bool true),d)) (none)) (some ((j.headD undef),d))):=by kernel_rfl
noncomputable def zck(R:zae)(f:Value)(g:Value)(h:Value)(a:List Value)(b:Hp):Option Outc:=pBin PP .lss Aa (a.getD 1 undef) h fun i=>zaa i fun j=>br j (pIdx 1 g (a.getD 1 undef) fun k=>zal 1 false b k fun l=>zaf R Ao [f,l] b fun d e=>zad d 0 fun m=>zad d 1 fun z=>zba 7 [.int .i64 0,.int .i64 0,.int .i64 0,.int .i64 0,.int .i64 0,.int .u64 0,.string ⟨#[]⟩] 0 m fun c=>zaj 1 false c 0 fun n=>pBin PP .eql Aa n (.int .i64 4) fun o=>zaa o fun p=>br p (zaj 1 false c 6 fun q=>zaj 1 false c 1 fun r=>zaz PP Ak [(0,q),(1,r)] fun s=>zak 3 [.string ⟨#[]⟩,.int .i64 0,.int .u64 0] 1 [(0,s)] e fun t u=>zaA 3 32 (a.getD 0 undef) t u fun v w=>pBin PP .add Aa (a.getD 1 undef) (.int .i64 1) fun x=>some (.next,[v,x],w)) (pBin PP .add Aa (a.getD 1 undef) (.int .i64 1) fun y=>some (.next,[(a.getD 0 undef),y],e))) (some (.exit 0,[(a.getD 0 undef),(a.getD 1 undef)],b))
theorem zmB(R:zae)(a d:Value)(b:Hp):zhZ R a d b =
pBin PP .eql An a (.pointer none) fun j=>zaa j fun k=>br k (some ((.tuple #[(.slice none 0 0),(.int .i64 2)]),b)) (zaf R As [a,d] b fun e c=>zad e 0 fun f=>zad e 1 fun g=>pBin PP .neq Ai g (.int .i64 0) fun l=>zaa l fun m=>br m (some ((.tuple #[(.slice none 0 0),g]),c)) (pLen .sl f c fun n=>zau (zar (zck R a f n) [(.slice none 0 0),(.int .i64 0)] c) fun o h i=>zaH o none (fun p=>zav p 0 (some ((.tuple #[(h.getD 0 undef),(.int .i64 0)]),i)) (none)) (some ((h.headD undef),i)))):=by kernel_rfl
noncomputable def zbr(R:zae)(d:Value)(e:Value)(c:Value)(h:Value)(a:List Value)(b:Hp):Option Outc:=pBin PP .lss Aa (a.getD 0 undef) (.int .i64 3) fun i=>zaa i fun j=>br j (zcc 3 false 1 h (a.getD 0 undef) fun f=>pBin PP .neq Aa f (.int .i64 0) fun k=>zaa k fun l=>br l (zaZ PP Aa (.int .u64 0) d c false b fun m=>zaZ PP Aa (.int .u64 0) d f false b fun n=>zaf R BD [m,n] b fun o p=>pUpd PP Aa d c o p fun g=>zaZ PP Aa (.int .i64 0) e c false g fun q=>zaZ PP Aa (.int .i64 0) e f false g fun r=>pMM true [q,r] fun s=>pUpd PP Aa e c s g fun t=>pBin PP .add Aa (a.getD 0 undef) (.int .i64 1) fun u=>some (.next,[u],t)) (pBin PP .add Aa (a.getD 0 undef) (.int .i64 1) fun v=>some (.next,[v],b))) (some (.exit 2,[(a.getD 0 undef)],b))
noncomputable def zbM(R:zae)(j:Value)(k:Value)(h:Value)(d:Value)(l:Value)(a:List Value)(e:Hp):Option Outc:=pBin PP .lss Aa (a.getD 0 undef) l fun m=>zaa m fun n=>br n (pIdx 1 k (a.getD 0 undef) fun o=>zal 1 false e o fun b=>zaf R Ao [j,b] e fun i p=>zad i 0 fun q=>zad i 1 fun D=>zba 7 [.int .i64 0,.int .i64 0,.int .i64 0,.int .i64 0,.int .i64 0,.int .u64 0,.string ⟨#[]⟩] 0 q fun f=>pUpd PP Aa h b (.int .u64 1) p fun r=>zaj 1 false f 2 fun s=>zaj 1 false f 3 fun t=>zaj 1 false f 4 fun u=>zaz PP Bo [(0,s),(1,t),(2,u)] fun v=>zau (zar (zbr R h d b v) [(.int .i64 0)] r) fun w x c=>zaH w none (fun g=>zav g 2 (zaZ PP Aa (.int .i64 0) d b false c fun y=>pBin PP .add Aa y (.int .i64 1) fun z=>pUpd PP Aa d b z c fun A=>pBin PP .add Aa (a.getD 0 undef) (.int .i64 1) fun B=>some (.next,[B],A)) (zav g 1 (pBin PP .add Aa (a.getD 0 undef) (.int .i64 1) fun C=>some (.next,[C],c)) (some (.exit g,[(a.getD 0 undef)],c)))) (some (.ret,[(x.headD undef)],c))) (some (.exit 0,[(a.getD 0 undef)],e))
theorem zmC(R:zae)(c d:Value)(e:Hp):zh0 R c d e =
pBin PP .eql An c (.pointer none) fun m=>zaa m fun n=>br n (some ((.tuple #[(.int .i64 0),(.int .u64 0),(.int .i64 0),(.int .i64 2)]),e)) (zak 1 [.int .i64 0] 1 [(0,d)] e fun o p=>zaf R As [c,o] p fun g f=>zad g 0 fun a=>zad g 1 fun h=>pBin PP .neq Ai h (.int .i64 0) fun q=>zaa q fun r=>br r (some ((.tuple #[(.int .i64 0),(.int .u64 0),(.int .i64 0),h]),f)) (pLen .sl a f fun s=>zed s (zbv f fun i j=>pLen .sl a j fun t=>zed t (zbv j fun k l=>pLen .sl a l fun u=>zau (zar (zbM R c a i k u) [(.int .i64 0)] l) fun v w b=>zaH v none (fun x=>zav x 0 (pLen .sl a b fun y=>zaZ PP Aa (.int .u64 0) i d false b fun z=>zaZ PP Aa (.int .i64 0) k d false b fun A=>some ((.tuple #[y,z,A,(.int .i64 0)]),b)) (none)) (some ((w.headD undef),b)))))):=by kernel_rfl
noncomputable def zbI(R:zae)(c:Value)(d:Value)(e:Value)(f:Value)(a:List Value)(b:Hp):Option Outc:=pBin PP .lss Aa (a.getD 0 undef) e fun g=>zaa g fun h=>br h (pIdx 1 c (a.getD 0 undef) fun i=>zal 1 false b i fun j=>zal 1 false b f fun k=>pIdx 1 d (a.getD 0 undef) fun l=>zal 1 false b l fun m=>pUpd PP Ac k j m b fun n=>pBin PP .add Aa (a.getD 0 undef) (.int .i64 1) fun o=>some (.next,[o],n)) (some (.exit 0,[(a.getD 0 undef)],b))
noncomputable def zbH(R:zae)(e:Value)(j:Value)(k:Value)(f:Value)(b:List Value)(d:Hp):Option Outc:=pBin PP .lss Aa (b.getD 0 undef) k fun l=>zaa l fun m=>br m (pIdx 1 j (b.getD 0 undef) fun n=>zal 1 false d n fun o=>zaf R Ao [e,o] d fun g a=>zad g 0 fun p=>zad g 1 fun K=>zba 7 [.int .i64 0,.int .i64 0,.int .i64 0,.int .i64 0,.int .i64 0,.int .u64 0,.string ⟨#[]⟩] 0 p fun c=>zaj 1 false c 0 fun q=>pBin PP .neq Aa q (.int .i64 4) fun r=>zaa r fun s=>br s (pBin PP .add Aa (b.getD 0 undef) (.int .i64 1) fun t=>some (.next,[t],a)) (zal 1 false a f fun u=>zaj 1 false c 6 fun v=>zaZ PP Ac (.int .i64 0) u v false a fun w=>pBin PP .eql Aa w (.int .i64 0) fun x=>zaa x fun y=>br y (pBin PP .add Aa (b.getD 0 undef) (.int .i64 1) fun z=>some (.next,[z],a)) (zal 1 false a f fun A=>zaj 1 false c 6 fun B=>zaZ PP Ac (.int .i64 0) A B false a fun C=>zaf R Ao [e,C] a fun h i=>zad h 0 fun D=>zad h 1 fun L=>zba 7 [.int .i64 0,.int .i64 0,.int .i64 0,.int .i64 0,.int .i64 0,.int .u64 0,.string ⟨#[]⟩] 0 D fun E=>zaj 1 false E 1 fun F=>zaj 1 false c 1 fun G=>pBin PP .neq Aa F G fun H=>zaa H fun I=>br I (some (.ret,[(.tuple #[(.slice none 0 0),(.int .i64 71)])],i)) (pBin PP .add Aa (b.getD 0 undef) (.int .i64 1) fun J=>some (.next,[J],i))))) (some (.exit 2,[(b.getD 0 undef)],d))
theorem zoq(R:zae)(a f b d:Value)(g:Hp):zjd R a f b d g =
pBin PP .eql An a (.pointer none) fun t=>zaa t fun u=>br u (some ((.tuple #[(.slice none 0 0),(.int .i64 2)]),g)) (zaf R As [a,f] g fun i j=>zad i 0 fun k=>zad i 1 fun l=>pBin PP .neq Ai l (.int .i64 0) fun v=>zaa v fun w=>br w (some ((.tuple #[(.slice none 0 0),l]),j)) (zaf R As [a,d] j fun m n=>zad m 0 fun X=>zad m 1 fun o=>pBin PP .neq Ai o (.int .i64 0) fun x=>zaa x fun y=>br y (some ((.tuple #[(.slice none 0 0),o]),n)) (zaf R Ba [b] n fun p c=>pBin PP .neq Ai p (.int .i64 0) fun z=>zaa z fun A=>br A (some ((.tuple #[(.slice none 0 0),p]),c)) (pLen .sl b c fun B=>pLen .sl d c fun C=>pBin PP .neq Aa B C fun D=>zaa D fun E=>br E (some ((.tuple #[(.slice none 0 0),(.int .i64 1)]),c)) (pLen .sl b c fun F=>zed F (zbv c fun G H=>zcM [.map none] H fun e I=>zan 1 I e G fun q=>pLen .sl b q fun J=>zau (zar (zbI R b d J e) [(.int .i64 0)] q) fun K L h=>zaH K none (fun M=>zav M 0 (pLen .sl k h fun N=>zau (zar (zbH R a k N e) [(.int .i64 0)] h) fun O P r=>zaH O none (fun Q=>zav Q 2 (zaf R AY [a,a,f,(.bool false),(.func (.func AE) #[] #[e])] r fun s S=>zad s 0 fun T=>zad s 1 fun U=>zaf R BC [U] S fun V W=>some ((.tuple #[T,V]),W)) (none)) (some ((P.headD undef),r))) (none)) (some ((L.headD undef),h)))))))):=by kernel_rfl
noncomputable def za7(R:zae)(c:Value)(d:Value)(b:List Value)(a:Hp):Option Outc:=pLen .sl c a fun e=>pBin PP .lss Aa (b.getD 0 undef) e fun f=>zaa f fun g=>br g (pIdx 1 c (b.getD 0 undef) fun h=>zal 1 false a h fun i=>pIdx 1 d (b.getD 0 undef) fun j=>zal 1 false a j fun k=>pBin PP .neq Aa i k fun l=>zaa l fun m=>br m (some (.ret,[(.bool false)],a)) (pBin PP .add Aa (b.getD 0 undef) (.int .i64 1) fun n=>some (.next,[n],a))) (some (.exit 0,[(b.getD 0 undef)],a))
theorem zef(R:zae)(b c:Value)(a:Hp):zcr R b c a =
pLen .sl b a fun e=>pLen .sl c a fun f=>pBin PP .neq Aa e f fun g=>zaa g fun h=>br h (some ((.bool false),a)) (zau (zar (za7 R b c) [(.int .i64 0)] a) fun i j d=>zaH i none (fun k=>zav k 0 (some ((.bool true),d)) (none)) (some ((j.headD undef),d))):=by kernel_rfl
noncomputable def zbg(R:zae)(g:Value)(b:Value)(c:Value)(t:List Value)(a:Hp):Option Outc:=pNil c (zas 1 c fun h=>zal 1 false a h fun i=>pLen .sl i a fun j=>pBin PP .gtr Aa j (.int .i64 0) fun k=>zaa k fun l=>br l (zal 1 false a b fun d=>zbd R Bn [c] a (fun m n=>some (.ret,[(W0 (.tuple #[m,g]))],n)) fun o e=>chk (Hp.rdP e b 1 false=some d) (zak 1 [.int .i64 0] 1 [(0,o)] e fun p f=>chk (Hp.rdP f b 1 false=some d) (zaA 1 8 d p f fun q r=>zan 1 r b q fun s=>some (.next,[],s)))) (some (.exit 2,[],a)))
noncomputable def zaP(R:zae)(l:Value)(m:Value)(b:Value)(n:List Value)(a:List Value)(g:Hp):Option Outc:=pBin PP .lss Aa (a.getD 2 undef) l fun o=>zaa o fun p=>br p (pIdx 1 (n.getD 0 undef) (a.getD 2 undef) fun q=>zal 1 false g q fun r=>pBin PP .add Aa (a.getD 2 undef) (.int .i64 1) fun c=>zaf R AF [r,(.func (.func Ay) #[] #[])] g fun s t=>pNil b (zas 1 b fun u=>zan 1 t u s fun e=>zau (zaa (a.getD 1 undef) fun v=>br v (zaz PP Ad [(0,(.int .i64 3))] fun w=>some (.ret,[(W0 (.tuple #[(.iface Ad w),c]))],e)) (pNil b (zas 1 b fun x=>zal 1 false e x fun y=>pLen .sl y e fun z=>pBin PP .eql Aa z (.int .i64 0) fun A=>zaa A fun B=>br B (zaz PP Ad [(0,(.int .i64 3))] fun C=>some (.ret,[(W0 (.tuple #[(.iface Ad C),c]))],e)) (some (.next,[],e))))) fun D E d=>zaH D (pNil b (zas 1 b fun F=>zal 1 false d F fun G=>pIdx 1 G (.int .i64 0) fun H=>zal 1 false d H fun I=>pBin PP .eql Ac I (.string ⟨#[114,111,111,116,115]⟩) fun J=>zaa J fun K=>br K (zbd R Ap [b] d (fun L M=>some (.ret,[(W0 (.tuple #[L,c]))],M)) fun ao N=>zau (zar (zbg R c m b) [] N) fun O P f=>zaH O none (fun h=>zav h 2 (pBin PP .add Aa (a.getD 2 undef) (.int .i64 1) fun Q=>some (.next,[c,(.bool true),Q],f)) (zav h 1 (pBin PP .add Aa (a.getD 2 undef) (.int .i64 1) fun S=>some (.next,[c,(a.getD 1 undef),S],f)) (some (.exit h,[c,(a.getD 1 undef),(a.getD 2 undef)],f)))) (some (.ret,[(P.headD undef)],f))) (zbd R Al [b] d (fun T U=>some (.ret,[(W0 (.tuple #[T,c]))],U)) fun V i=>pBin PP .add Aa (a.getD 2 undef) (.int .i64 1) fun W=>pBin PP .neq Aa V W fun X=>zaa X fun Y=>br Y (zaz PP Ad [(0,(.int .i64 3))] fun Z=>some (.ret,[(W0 (.tuple #[(.iface Ad Z),c]))],i)) (zbd R AH [b] i (fun aa ab=>some (.ret,[(W0 (.tuple #[aa,c]))],ab)) fun ac j=>pNil b (zas 2 b fun ad=>zal 1 false j ad fun ae=>zak 1 [.int .i64 0] 1 [(0,ac)] j fun af ag=>zaA 1 8 ae af ag fun ah ai=>pNil b (zas 2 b fun aj=>zan 1 ai aj ah fun ak=>pBin PP .add Aa (a.getD 2 undef) (.int .i64 1) fun al=>some (.next,[c,(a.getD 1 undef),al],ak))))))) (fun k=>zav k 1 (pBin PP .add Aa (a.getD 2 undef) (.int .i64 1) fun am=>some (.next,[c,(a.getD 1 undef),am],d)) (some (.exit k,[c,(a.getD 1 undef),(a.getD 2 undef)],d))) (some (.ret,[(E.headD undef)],d)))) (some (.exit 0,[(a.getD 0 undef),(a.getD 1 undef),(a.getD 2 undef)],g))
theorem zmz(R:zae)(e f:Value)(t:Hp):zhV R e f t =
zcM [.pointer none] t fun b D=>zcM [.slice none 0 0] D fun c E=>zcM [.int .i64 0] E fun a F=>zaf R Bl [f] F fun g G=>zad g 0 fun n=>zad g 1 fun o=>zan 1 G b n fun H=>zan 1 H a o fun k=>zal 1 false k a fun p=>pBin PP .neq Ai p (.int .i64 0) fun q=>zaa q fun I=>br I (zal 1 false k a fun r=>zan 1 k b (.pointer none) fun u=>chk (Hp.rdP u a 1 false=some r) (zan 1 u c (.slice none 0 0) fun v=>chk (Hp.rdP v a 1 false=some r) (zan 1 v a r fun l=>zal 1 false l b fun J=>zal 1 false l c fun K=>zal 1 false l a fun L=>some ((W1 (.tuple #[J,K,(.int .i64 0),L])),l)))) (zaf R Bi [e,(.string ⟨#[10]⟩)] k fun d j=>zau (pLen .sl d j fun M=>pBin PP .sub Aa M (.int .i64 1) fun N=>pIdx 1 d N fun O=>zal 1 false j O fun P=>pBin PP .eql Ac P (.string ⟨#[]⟩) fun Q=>zaa Q fun S=>br S (pLen .sl d j fun T=>pBin PP .sub Aa T (.int .i64 1) fun U=>zcY 1 d none (some U) fun V=>some (.next,[V],j)) (some (.next,[d],j))) fun W h s=>zaH W (zf5 (zal 1 false s b fun X=>zaz PP BS [(0,X)] fun Y=>zcM (zab Y) s fun Z w=>pLen .sl (h.getD 0 undef) w fun aa=>zau (zar (zaP R aa c Z h) [(.int .i64 0),(.bool false),(.int .i64 0)] w) fun ab x i=>zaH ab none (fun ac=>zav ac 0 (pLen .sl (h.getD 0 undef) i fun ad=>pBin PP .add Aa ad (.int .i64 1) fun ae=>pUn .not (x.getD 1 undef) fun af=>zaa af fun ag=>br ag (zaz PP Ad [(0,(.int .i64 3))] fun ah=>some ((W0 (.tuple #[(.iface Ad ah),ae])),i)) (zal 1 false i b fun ai=>zal 1 false i c fun y=>zan 1 i b ai fun z=>chk (Hp.rdP z c 1 false=some y) (zan 1 z c y fun aj=>zan 1 aj a (.int .i64 0) fun m=>zal 1 false m b fun ak=>zal 1 false m c fun al=>zal 1 false m a fun am=>some ((W1 (.tuple #[ak,al,(.int .i64 0),am])),m)))) (none)) (some ((x.headD undef),i))) fun ao A=>zez ao (fun u140=>zjC [.cell 4 24,.cell 5 22,.tmp 6,.cell 7 30] u140 fun ap=>zk2 [.cell 4 24,.cell 5 22,.tmp 6,.cell 7 30] ap fun aq=>zf1 PP orc R Bk [b,c,a] .nilIface A fun B=>endL PP [.val e,.val f,.unk,.unk,.val b,.val c,.val (.int .i64 0),.val a,.val (h.getD 0 undef),.unk,.unk,.unk,.unk,.unk,.val g,.val f,.val g,.val n,.val o,.val p,.val q,.unk,.val e,.val d,.unk,.unk,.unk,.unk,.unk,.unk,.unk,.unk,.unk,.unk,.unk,.unk,.val (.func (.func Bk) #[] #[b,c,a]),.unk,.unk,.unk,.unk,.unk,.unk,.unk,.unk,.unk,.unk,.unk,.unk,.unk,.unk,.unk,.unk,.unk,.unk,.unk,.unk,.unk,.unk,.unk,.unk,.unk,.unk,.unk,.unk,.unk,.unk,.unk,.unk,.unk,.unk,.unk,.unk,.unk,.unk,.unk,.unk,.unk,.unk,.unk,.unk,.unk,.unk,.unk,.unk,.unk,.unk,.unk,.unk,.unk,.unk,.unk,.unk,.unk,.unk,.unk,.unk,.unk,.unk,.unk,.unk,.unk,.unk,.unk,.unk,.unk,.unk,.unk,.unk,.unk,.unk,.unk,.unk,.unk] B [.cell 4 24,.cell 5 22,.tmp 6,.cell 7 30] aq fun ar=>some (W1 (resV ar),B)) (fun au=>pTail au fun av aw=>zf1 PP orc R Bk [b,c,a] av A fun C=>endL PP [.val e,.val f,.unk,.unk,.val b,.val c,.val (.int .i64 0),.val a,.val (h.getD 0 undef),.unk,.unk,.unk,.unk,.unk,.val g,.val f,.val g,.val n,.val o,.val p,.val q,.unk,.val e,.val d,.unk,.unk,.unk,.unk,.unk,.unk,.unk,.unk,.unk,.unk,.unk,.unk,.val (.func (.func Bk) #[] #[b,c,a]),.unk,.unk,.unk,.unk,.unk,.unk,.unk,.unk,.unk,.unk,.unk,.unk,.unk,.unk,.unk,.unk,.unk,.unk,.unk,.unk,.unk,.unk,.unk,.unk,.unk,.unk,.unk,.unk,.unk,.unk,.unk,.unk,.unk,.unk,.unk,.unk,.unk,.unk,.unk,.unk,.unk,.unk,.unk,.unk,.unk,.unk,.unk,.unk,.unk,.unk,.unk,.unk,.unk,.unk,.unk,.unk,.unk,.unk,.unk,.unk,.unk,.unk,.unk,.unk,.unk,.unk,.unk,.unk,.unk,.unk,.unk,.unk,.unk,.unk,.unk,.unk,.unk] C [.cell 4 24,.cell 5 22,.tmp 6,.cell 7 30] aw fun ax=>some (W1 (resV ax),C))) (fun ay=>none) (retT (h.headD undef) s)):=by kernel_rfl
noncomputable def zaM(R:zae)(d:Value)(e:Value)(f:Value)(a:List Value)(b:Hp):Option Outc:=pBin PP .lss Aa (a.getD 0 undef) f fun g=>zaa g fun h=>br h (pIdx 1 e (a.getD 0 undef) fun i=>zal 1 false b i fun j=>zaf R AG [d,j] b fun k c=>pUn .not k fun l=>zaa l fun m=>br m (some (.ret,[(.tuple #[(.slice none 0 0),(.int .i64 70)])],c)) (pBin PP .add Aa (a.getD 0 undef) (.int .i64 1) fun n=>some (.next,[n],c))) (some (.exit 0,[(a.getD 0 undef)],b))
noncomputable def zat(R:zae)(h:Value)(i:Value)(a:List Value)(c:Hp):Option Outc:=pLen .sl (a.getD 1 undef) c fun m=>pBin PP .gtr Aa m (.int .i64 0) fun n=>zaa n fun o=>br o (pLen .sl (a.getD 1 undef) c fun p=>pBin PP .sub Aa p (.int .i64 1) fun q=>pIdx 2 (a.getD 1 undef) q fun b=>pNil h (zas 1 h fun r=>zal 1 false c r fun s=>pNil b (zas 0 b fun t=>zal 1 false c t fun u=>pBin PP .sub Aa u (.int .i64 1) fun v=>pIdx 7 s v fun w=>zal 7 true c w fun x=>zba 7 [.int .i64 0,.int .i64 0,.int .i64 0,.int .i64 0,.int .i64 0,.int .u64 0,.string ⟨#[]⟩] 0 x fun e=>pNil b (zas 1 b fun j=>zal 1 false c j fun k=>zaj 1 false e 0 fun y=>zaf R Au [y] c fun z d=>chk (Hp.rdP d j 1 false=some k) (pBin PP .eql Aa k z fun A=>zaa A fun B=>br B (pNil b (zas 0 b fun C=>zal 1 false d C fun D=>zak 1 [.int .i64 0] 1 [(0,D)] d fun E F=>zaA 1 8 (a.getD 0 undef) E F fun G l=>pLen .sl (a.getD 1 undef) l fun H=>pBin PP .sub Aa H (.int .i64 1) fun I=>zcY 2 (a.getD 1 undef) none (some I) fun J=>some (.next,[G,J],l))) (zaj 1 false e 2 fun K=>zaj 1 false e 3 fun L=>zaj 1 false e 4 fun M=>zaz PP Bo [(0,K),(1,L),(2,M)] fun N=>pNil b (zas 1 b fun O=>zal 1 false d O fun P=>zcc 3 false 1 N P fun f=>pNil b (zas 1 b fun Q=>zal 1 false d Q fun S=>pBin PP .add Aa S (.int .i64 1) fun T=>pNil b (zas 1 b fun U=>zan 1 d U T fun g=>pIdx 1 i f fun V=>zal 1 false g V fun W=>pUn .not W fun X=>zaa X fun Y=>br Y (pIdx 1 i f fun Z=>zan 1 g Z (.bool true) fun aa=>zaz PP BR [(0,f),(1,(.int .i64 0))] fun ab=>zak 2 [.int .i64 0,.int .i64 0] 1 [(0,ab)] aa fun ac ad=>zaA 2 16 (a.getD 1 undef) ac ad fun ae af=>some (.next,[(a.getD 0 undef),ae],af)) (some (.next,[(a.getD 0 undef),(a.getD 1 undef)],g))))))))))) (some (.exit 4,[(a.getD 0 undef),(a.getD 1 undef)],c))
noncomputable def zaL(R:zae)(h:Value)(i:Value)(e:Value)(j:Value)(a:List Value)(c:Hp):Option Outc:=pBin PP .lss Aa (a.getD 2 undef) j fun k=>zaa k fun l=>br l (pIdx 1 i (a.getD 2 undef) fun m=>zal 1 false c m fun f=>pIdx 1 e f fun n=>zal 1 false c n fun o=>zaa o fun p=>br p (pBin PP .add Aa (a.getD 2 undef) (.int .i64 1) fun q=>some (.next,[(a.getD 0 undef),(a.getD 1 undef),q],c)) (pIdx 1 e f fun r=>zan 1 c r (.bool true) fun s=>zaz PP BR [(0,f),(1,(.int .i64 0))] fun t=>zak 2 [.int .i64 0,.int .i64 0] 1 [(0,t)] s fun u v=>zaA 2 16 (a.getD 1 undef) u v fun w x=>zau (zar (zat R h e) [(a.getD 0 undef),w] x) fun y b d=>zaH y none (fun g=>zav g 4 (pBin PP .add Aa (a.getD 2 undef) (.int .i64 1) fun z=>some (.next,[(b.getD 0 undef),(b.getD 1 undef),z],d)) (zav g 3 (pBin PP .add Aa (a.getD 2 undef) (.int .i64 1) fun A=>some (.next,[(b.getD 0 undef),(b.getD 1 undef),A],d)) (some (.exit g,[(b.getD 0 undef),(b.getD 1 undef),(a.getD 2 undef)],d)))) (some (.ret,[(b.headD undef)],d)))) (some (.exit 2,[(a.getD 0 undef),(a.getD 1 undef),(a.getD 2 undef)],c))
theorem zdD(R:zae)(a b:Value)(d:Hp):zdA R a b d =
pLen .sl b d fun i=>zau (zar (zaM R a b i) [(.int .i64 0)] d) fun j k c=>zaH j none (fun l=>zav l 0 (pNil a (zas 1 a fun m=>zal 1 false c m fun n=>pLen .sl n c fun o=>pBin PP .add Aa o (.int .i64 1) fun e=>zaR 1 1 [.bool false] e e c fun p f=>pLen .sl b f fun q=>zau (zar (zaL R a b p q) [(.slice none 0 0),(.slice none 0 0),(.int .i64 0)] f) fun r g h=>zaH r none (fun s=>zav s 2 (some ((.tuple #[(g.getD 0 undef),(.int .i64 0)]),h)) (none)) (some ((g.headD undef),h)))) (none)) (some ((k.headD undef),c)):=by kernel_rfl
noncomputable def zbL(R:zae)(g:Value)(d:Value)(h:Value)(b:List Value)(a:Hp):Option Outc:=pBin PP .lss Aa (b.getD 0 undef) h fun i=>zaa i fun j=>br j (pIdx 3 g (b.getD 0 undef) fun k=>zal 3 true a k fun l=>zba 3 [.string ⟨#[]⟩,.int .i64 0,.int .u64 0] 0 l fun c=>zaj 1 false c 0 fun m=>zaZ PP Ac (.agg #[.string ⟨#[]⟩,.int .i64 0,.int .u64 0]) d m true a fun e=>zad e 0 fun n=>zad e 1 fun o=>zba 3 [.string ⟨#[]⟩,.int .i64 0,.int .u64 0] 0 n fun y=>zaa o fun p=>br p (some (.ret,[(.tuple #[(.map none),(.int .i64 72)])],a)) (zaj 1 false c 0 fun q=>zaf R AS [q] a fun r f=>pUn .not r fun s=>zaa s fun t=>br t (some (.ret,[(.tuple #[(.map none),(.int .i64 72)])],f)) (zaj 1 false c 0 fun u=>zaj 3 true c 0 fun v=>pUpd PP Ac d u v f fun w=>pBin PP .add Aa (b.getD 0 undef) (.int .i64 1) fun x=>some (.next,[x],w)))) (some (.exit 0,[(b.getD 0 undef)],a))
noncomputable def zbK(R:zae)(e:Value)(f:Value)(c:List Value)(a:Hp):Option Outc:=pBin PP .lss Aa (c.getD 0 undef) f fun g=>zaa g fun h=>br h (pIdx 3 e (c.getD 0 undef) fun i=>zal 3 true a i fun j=>zba 3 [.string ⟨#[]⟩,.int .i64 0,.int .u64 0] 0 j fun b=>zaj 1 false b 1 fun k=>pBin PP .lss Aa k (.int .i64 0) fun l=>zaa l fun m=>br m (some (.ret,[(.tuple #[(.map none),(.int .i64 5)])],a)) (zaj 1 false b 1 fun n=>pBin PP .gtr Aa n (.int .i64 64) fun o=>zaa o fun p=>br p (some (.ret,[(.tuple #[(.map none),(.int .i64 5)])],a)) (zaj 1 false b 1 fun q=>pMM true [q,(.int .i64 1)] fun r=>zaj 1 false b 2 fun s=>zaf R Ae [r,s] a fun t d=>zaj 1 false b 2 fun u=>pBin PP .neq Ab t u fun v=>zaa v fun w=>br w (some (.ret,[(.tuple #[(.map none),(.int .i64 5)])],d)) (pBin PP .add Aa (c.getD 0 undef) (.int .i64 1) fun x=>some (.next,[x],d))))) (some (.exit 2,[(c.getD 0 undef)],a))
theorem zmA(R:zae)(a:Value)(b:Hp):zhW R a b =
pLen .sl a b fun g=>zed g (zbv b fun d e=>pLen .sl a e fun h=>zau (zar (zbL R a d h) [(.int .i64 0)] e) fun i j c=>zaH i none (fun k=>zav k 0 (pLen .sl a c fun l=>zau (zar (zbK R a l) [(.int .i64 0)] c) fun m n f=>zaH m none (fun o=>zav o 2 (some ((.tuple #[d,(.int .i64 0)]),f)) (none)) (some ((n.headD undef),f))) (none)) (some ((j.headD undef),c))):=by kernel_rfl
noncomputable def zbt(R:zae)(g:Value)(d:Value)(h:Value)(a:List Value)(b:Hp):Option Outc:=pBin PP .lss Aa (a.getD 0 undef) h fun i=>zaa i fun j=>br j (pIdx 1 g (a.getD 0 undef) fun k=>zal 1 false b k fun c=>zaZ PP Ac (.int .i64 0) d c false b fun l=>pBin PP .add Aa l (.int .i64 1) fun m=>pUpd PP Ac d c m b fun e=>zaZ PP Ac (.int .i64 0) d c false e fun n=>pBin PP .gtr Aa n (.int .i64 1) fun o=>zaa o fun p=>br p (some (.ret,[(.int .i64 72)],e)) (zaf R AS [c] e fun q f=>pUn .not q fun r=>zaa r fun s=>br s (some (.ret,[(.int .i64 72)],f)) (pBin PP .add Aa (a.getD 0 undef) (.int .i64 1) fun t=>some (.next,[t],f)))) (some (.exit 0,[(a.getD 0 undef)],b))
theorem zlo(R:zae)(a:Value)(b:Hp):zgC R a b =
pLen .sl a b fun e=>zed e (zbv b fun f c=>pLen .sl a c fun g=>zau (zar (zbt R a f g) [(.int .i64 0)] c) fun h i d=>zaH h none (fun j=>zav j 0 (some ((.int .i64 0),d)) (none)) (some ((i.headD undef),d))):=by kernel_rfl
noncomputable def za0(R:zae)(d:Value)(e:Value)(c:List Value)(b:Hp):Option Outc:=pBin PP .lss Aa (c.getD 1 undef) (.int .i64 3) fun f=>zaa f fun g=>br g (zcc 3 false 1 e (c.getD 1 undef) fun a=>pNil a (zal 1 false b a fun h=>pBin PP .neq Aa h (.int .i64 0) fun i=>zaa i fun j=>br j (zaa (c.getD 0 undef) fun k=>br k (pNil a (zal 1 false b a fun l=>zaZ PP Aa (.int .i64 0) d l false b fun m=>pNil a (zan 1 b a m fun n=>pBin PP .add Aa (c.getD 1 undef) (.int .i64 1) fun o=>some (.next,[(.bool true),o],n)))) (pNil a (zal 1 false b a fun p=>zaZ PP Aa (.int .i64 0) d p false b fun q=>pNil a (zal 1 false b a fun r=>pBin PP .neq Aa q r fun s=>pNil a (zal 1 false b a fun t=>zaZ PP Aa (.int .i64 0) d t false b fun u=>pNil a (zan 1 b a u fun v=>pBin PP .add Aa (c.getD 1 undef) (.int .i64 1) fun w=>some (.next,[s,w],v))))))) (pBin PP .add Aa (c.getD 1 undef) (.int .i64 1) fun x=>some (.next,[(c.getD 0 undef),x],b)))) (some (.exit 2,[(c.getD 0 undef),(c.getD 1 undef)],b))
noncomputable def zbj(R:zae)(u:Value)(v:Value)(w:Value)(x:Value)(y:Value)(d:Value)(z:Value)(a:List Value)(h:Hp):Option Outc:=pBin PP .lss Aa (a.getD 0 undef) z fun A=>zaa A fun B=>br B (pIdx 1 y (a.getD 0 undef) fun C=>zal 1 false h C fun c=>zaf R Ao [u,c] h fun l D=>zad l 0 fun E=>zad l 1 fun ak=>zcM [.int .i64 0,.int .i64 0,.int .i64 0,.int .i64 0,.int .i64 0,.int .u64 0,.string ⟨#[]⟩] D fun b F=>zan 7 F b E fun e=>zau (zas 0 b fun G=>zal 1 false e G fun H=>pBin PP .eql Aa H (.int .i64 4) fun I=>zaa I fun J=>br J (zal 7 true e b fun K=>zcV orc R x [K] e fun m i=>zad m 0 fun n=>zad m 1 fun o=>pBin PP .neq Ai o (.int .i64 0) fun L=>zaa L fun M=>br M (zaz PP AI [(0,o)] fun N=>some (.ret,[(.tuple #[(.slice none 0 0),(.iface AI N)])],i)) (pBin PP .neq Aa n (.int .i64 0) fun O=>zaa O fun P=>br P (pUpd PP Aa d c n i fun Q=>some (.exit 1,[],Q)) (some (.next,[],i)))) (some (.next,[],e))) fun S T f=>zaH S (zas 2 b fun U=>zas 3 b fun V=>zas 4 b fun W=>zaz PP A4 [(0,U),(1,V),(2,W)] fun X=>zau (zar (za0 R d X) [w,(.int .i64 0)] f) fun Y p g=>zaH Y none (fun j=>zav j 2 (pUpd PP Aa d c c g fun k=>zaa (p.getD 0 undef) fun Z=>br Z (zal 7 true k b fun aa=>zaf R At [v,aa] k fun q r=>zad q 0 fun ab=>zad q 1 fun s=>pBin PP .neq Ai s (.int .i64 0) fun ac=>zaa ac fun ad=>br ad (zaz PP AI [(0,s)] fun ae=>some (.ret,[(.tuple #[(.slice none 0 0),(.iface AI ae)])],r)) (pUpd PP Aa d c ab r fun af=>pBin PP .add Aa (a.getD 0 undef) (.int .i64 1) fun ag=>some (.next,[ag],af))) (pBin PP .add Aa (a.getD 0 undef) (.int .i64 1) fun ah=>some (.next,[ah],k))) (zav j 1 (pBin PP .add Aa (a.getD 0 undef) (.int .i64 1) fun ai=>some (.next,[ai],g)) (some (.exit j,[(a.getD 0 undef)],g)))) (some (.ret,[(p.headD undef)],g))) (fun t=>zav t 1 (pBin PP .add Aa (a.getD 0 undef) (.int .i64 1) fun aj=>some (.next,[aj],f)) (some (.exit t,[(a.getD 0 undef)],f))) (some (.ret,[(T.headD undef)],f))) (some (.exit 0,[(a.getD 0 undef)],h))
noncomputable def zbi(R:zae)(c:Value)(d:Value)(e:Value)(a:List Value)(b:Hp):Option Outc:=pBin PP .lss Aa (a.getD 1 undef) e fun f=>zaa f fun g=>br g (pIdx 1 c (a.getD 1 undef) fun h=>zal 1 false b h fun i=>zaZ PP Aa (.int .i64 0) d i false b fun j=>zak 1 [.int .i64 0] 1 [(0,j)] b fun k l=>zaA 1 8 (a.getD 0 undef) k l fun m n=>pBin PP .add Aa (a.getD 1 undef) (.int .i64 1) fun o=>some (.next,[m,o],n)) (some (.exit 4,[(a.getD 0 undef),(a.getD 1 undef)],b))
theorem zkc(R:zae)(b f a g h:Value)(i:Hp):zfQ R b f a g h i =
zaf R As [b,a] i fun j c=>zad j 0 fun d=>zad j 1 fun k=>pBin PP .neq Ai k (.int .i64 0) fun q=>zaa q fun r=>br r (zaz PP AI [(0,k)] fun s=>some ((.tuple #[(.slice none 0 0),(.iface AI s)]),c)) (pLen .sl d c fun t=>zed t (zbv c fun l m=>pLen .sl d m fun u=>zau (zar (zbj R b f g h d l u) [(.int .i64 0)] m) fun v w e=>zaH v none (fun x=>zav x 0 (pLen .sl a e fun y=>zaR 1 8 [.int .i64 0] (.int .i64 0) y e fun z n=>pLen .sl a n fun A=>zau (zar (zbi R a l A) [z,(.int .i64 0)] n) fun B o p=>zaH B none (fun C=>zav C 4 (some ((.tuple #[(o.getD 0 undef),.nilIface]),p)) (none)) (some ((o.headD undef),p))) (none)) (some ((w.headD undef),e)))):=by kernel_rfl
noncomputable def zaI(R:zae)(d:Value)(a:List Value)(c:Hp):Option Outc:=br (Nat.blt (zaS ((a.drop 2).getD 0 undef)) (zaV ((a.drop 2).getD 0 undef)).size) (zcV orc R d [(.int .i32 (Utf8.decode (zaV ((a.drop 2).getD 0 undef)) (zaS ((a.drop 2).getD 0 undef))).1)] c fun e b=>zaa e fun f=>br f (pBin PP .geq Aa (a.getD 1 undef) (.int .i64 0) fun g=>zaa g fun h=>br h (zaz PP A5 [(0,(a.getD 1 undef)),(1,(.int .i64 ((zaS ((a.drop 2).getD 0 undef)):Nat)))] fun i=>zak 2 [.int .i64 0,.int .i64 0] 1 [(0,i)] b fun j k=>zaA 2 16 (a.getD 0 undef) j k fun l m=>pUn .xor (a.getD 1 undef) fun n=>some (.next,[l,n,(.tuple #[.string (zaV ((a.drop 2).getD 0 undef)),.int .i64 (((zaS ((a.drop 2).getD 0 undef))+(Utf8.decode (zaV ((a.drop 2).getD 0 undef)) (zaS ((a.drop 2).getD 0 undef))).2):Nat)])],m)) (some (.next,[(a.getD 0 undef),(a.getD 1 undef),(.tuple #[.string (zaV ((a.drop 2).getD 0 undef)),.int .i64 (((zaS ((a.drop 2).getD 0 undef))+(Utf8.decode (zaV ((a.drop 2).getD 0 undef)) (zaS ((a.drop 2).getD 0 undef))).2):Nat)])],b))) (pBin PP .lss Aa (a.getD 1 undef) (.int .i64 0) fun o=>zaa o fun p=>br p (some (.next,[(a.getD 0 undef),(.int .i64 ((zaS ((a.drop 2).getD 0 undef)):Nat)),(.tuple #[.string (zaV ((a.drop 2).getD 0 undef)),.int .i64 (((zaS ((a.drop 2).getD 0 undef))+(Utf8.decode (zaV ((a.drop 2).getD 0 undef)) (zaS ((a.drop 2).getD 0 undef))).2):Nat)])],b)) (some (.next,[(a.getD 0 undef),(a.getD 1 undef),(.tuple #[.string (zaV ((a.drop 2).getD 0 undef)),.int .i64 (((zaS ((a.drop 2).getD 0 undef))+(Utf8.decode (zaV ((a.drop 2).getD 0 undef)) (zaS ((a.drop 2).getD 0 undef))).2):Nat)])],b)))) (some (.exit 0,[(a.getD 0 undef),(a.getD 1 undef),(.tuple #[.string (zaV ((a.drop 2).getD 0 undef)),.int .i64 ((zaS ((a.drop 2).getD 0 undef)):Nat)])],c))
noncomputable def zaO(R:zae)(d:Value)(e:Value)(f:Value)(g:List Value)(a:List Value)(b:Hp):Option Outc:=pBin PP .lss Aa (a.getD 0 undef) f fun h=>zaa h fun i=>br i (pIdx 2 (g.getD 0 undef) (a.getD 0 undef) fun j=>zal 2 true b j fun k=>zba 2 [.int .i64 0,.int .i64 0] 0 k fun c=>zaj 1 false c 0 fun l=>zaj 1 false c 1 fun m=>za2 d (some l) (some m) fun n=>pIdx 1 e (a.getD 0 undef) fun o=>zan 1 b o n fun p=>pBin PP .add Aa (a.getD 0 undef) (.int .i64 1) fun q=>some (.next,[q],p)) (some (.exit 2,[(a.getD 0 undef)],b))
theorem ze2(R:zae)(b f:Value)(g:Hp):zc1 R b f g =
zaR 2 16 [.int .i64 0,.int .i64 0] (.int .i64 0) (.int .i64 32) g fun l m=>ziF b fun s3=>zau (zar (zaI R f) [l,(.int .i64 (-1)),(.tuple #[.string s3,.int .i64 (0:Nat)])] m) fun n a c=>zaH n none (fun o=>zav o 0 (zau (pBin PP .geq Aa (a.getD 1 undef) (.int .i64 0) fun p=>zaa p fun q=>br q (pLen .str b c fun r=>zaz PP A5 [(0,(a.getD 1 undef)),(1,r)] fun s=>zak 2 [.int .i64 0,.int .i64 0] 1 [(0,s)] c fun t u=>zaA 2 16 (a.getD 0 undef) t u fun v w=>some (.next,[v],w)) (some (.next,[(a.getD 0 undef)],c))) fun x d e=>zaH x (pLen .sl (d.getD 0 undef) e fun h=>zaR 1 16 [.string ⟨#[]⟩] h h e fun i j=>pLen .sl (d.getD 0 undef) j fun y=>zau (zar (zaO R b i y d) [(.int .i64 0)] j) fun z A k=>zaH z none (fun B=>zav B 2 (some (i,k)) (none)) (some ((A.headD undef),k))) (fun C=>none) (some ((d.headD undef),e))) (none)) (some ((a.headD undef),c)):=by kernel_rfl
noncomputable def zaJ(R:zae)(e:Value)(f:Value)(b:Value)(a:List Value)(c:Hp):Option Outc:=pBin PP .lss Aa (a.getD 0 undef) f fun g=>zaa g fun h=>br h (zas 2 b fun i=>zas 3 b fun j=>zas 4 b fun k=>zaz PP A4 [(0,i),(1,j),(2,k)] fun l=>zcc 3 false 1 l (a.getD 0 undef) fun d=>zbd R Bn [e] c (fun m n=>some (.ret,[(W0 m)],n)) fun o p=>pNil d (zan 1 p d o fun q=>pBin PP .add Aa (a.getD 0 undef) (.int .i64 1) fun r=>some (.next,[r],q))) (some (.exit 1,[(a.getD 0 undef)],c))
theorem zfX(R:zae)(a:Value)(k:Hp):zdz R a k =
zbd R Ap [a] k (fun x y=>some ((W0 x),y)) fun z A=>zbd R Bm [z] A (fun B C=>some ((W0 B),C)) fun D E=>zaz PP Am [(0,D)] fun F=>zcM [.int .i64 0,.int .i64 0,.int .i64 0,.int .i64 0,.int .i64 0,.int .u64 0,.string ⟨#[]⟩] E fun b G=>zan 7 G b F fun g=>zau (zas 0 b fun H=>zal 1 false g H fun l=>pBin PP .eql Aa l (.int .i64 3) fun I=>zaa I fun J=>br J (zbd R Al [a] g (fun K L=>some (.ret,[(W0 K)],L)) fun M N=>zas 1 b fun O=>zan 1 N O M fun P=>zbd R Ap [a] P (fun Q S=>some (.ret,[(W0 Q)],S)) fun T U=>zaf R AJ [T] U fun m n=>zad m 0 fun V=>zad m 1 fun W=>pBin PP .neq Ai W (.int .i64 0) fun X=>zaa X fun Y=>br Y (zaz PP Ad [(0,(.int .i64 3))] fun Z=>some (.ret,[(W0 (.iface Ad Z))],n)) (zas 5 b fun aa=>zan 1 n aa V fun ab=>some (.next,[],ab))) (pBin PP .eql Aa l (.int .i64 4) fun ac=>zaa ac fun ad=>br ad (zbd R Ap [a] g (fun ae af=>some (.ret,[(W0 ae)],af)) fun ag ah=>zas 6 b fun ai=>zan 1 ah ai ag fun aj=>zbd R Al [a] aj (fun ak al=>some (.ret,[(W0 ak)],al)) fun am ao=>zas 1 b fun ap=>zan 1 ao ap am fun aq=>some (.next,[],aq)) (some (.next,[],g)))) fun ar au h=>zaH ar (zas 0 b fun av=>zal 1 false h av fun aw=>zaf R Au [aw] h fun ax ay=>zau (zar (zaJ R a ax b) [(.int .i64 0)] ay) fun az ba f=>zaH az none (fun bb=>zav bb 1 (zau (zas 0 b fun bc=>zal 1 false f bc fun d=>pBin PP .eql Aa d (.int .i64 31) fun bd=>zaa bd fun be=>br be (zbd R Al [a] f (fun bf bg=>some (.ret,[(W0 bf)],bg)) fun bh bi=>zap .u64 bh fun bj=>zas 5 b fun bk=>zan 1 bi bk bj fun bl=>zbd R Al [a] bl (fun bm bn=>some (.ret,[(W0 bm)],bn)) fun bo bp=>zas 1 b fun bq=>zan 1 bp bq bo fun bs=>some (.next,[],bs)) (zau (pBin PP .eql Aa d (.int .i64 32) fun bt=>zaa bt fun bu=>br bu (some (.next,[(.bool true)],f)) (pBin PP .eql Aa d (.int .i64 33) fun bv=>some (.next,[bv],f))) fun bw o c=>zaH bw (zaa (o.getD 0 undef) fun bx=>br bx (zbd R Al [a] c (fun bz ca=>some (.ret,[(W0 bz)],ca)) fun cb cc=>zas 1 b fun cd=>zan 1 cc cd cb fun ce=>some (.next,[],ce)) (pBin PP .eql Aa d (.int .i64 14) fun cf=>zaa cf fun cg=>br cg (pNil a (zas 0 a fun ch=>zal 1 false c ch fun ci=>zas 3 b fun cj=>zal 1 false c cj fun ck=>zaf R Aj [ci,ck] c fun cl cm=>zas 1 b fun cn=>zan 1 cm cn cl fun co=>some (.next,[],co))) (pBin PP .eql Aa d (.int .i64 30) fun cp=>zaa cp fun cq=>br cq (pNil a (zas 0 a fun cr=>zal 1 false c cr fun cs=>zas 2 b fun ct=>zal 1 false c ct fun cu=>zaf R Aj [cs,cu] c fun cv i=>pNil a (zas 0 a fun p=>zal 1 false i p fun q=>chk (Hp.rdP c p 1 false=some q) (zas 3 b fun r=>zal 1 false i r fun s=>chk (Hp.rdP c r 1 false=some s) (zaf R Aj [q,s] i fun cw cx=>pBin PP .add Aa cv cw fun cy=>pMM false [cy,(.int .i64 65)] fun cz=>zas 1 b fun da=>zan 1 cx da cz fun j=>zas 1 b fun db=>zal 1 false j db fun dc=>pBin PP .gtr Aa dc (.int .i64 64) fun dd=>zaa dd fun de=>br de (zas 1 b fun df=>zan 1 j df (.int .i64 0) fun dg=>some (.next,[],dg)) (some (.next,[],j))))))) (pBin PP .geq Aa d (.int .i64 15) fun dh=>zaa dh fun di=>br di (pBin PP .leq Aa d (.int .i64 29) fun dj=>zaa dj fun dk=>br dk (pNil a (zas 0 a fun dl=>zal 1 false c dl fun dm=>zas 2 b fun dn=>zal 1 false c dn fun dp=>zaf R Aj [dm,dp] c fun dq dr=>zas 1 b fun ds=>zan 1 dr ds dq fun dt=>some (.next,[],dt))) (some (.next,[],c))) (some (.next,[],c)))))) (fun t=>zav t 3 (some (.next,[],c)) (some (.exit t,[],c))) (some (.ret,[(o.headD undef)],c)))) fun du dv e=>zaH du (pNil a (zas 1 a fun dw=>zal 1 false e dw fun dx=>pLen .sl dx e fun dy=>pBin PP .gtr Aa dy (.int .i64 0) fun dz=>zaa dz fun ea=>br ea (zaz PP Ad [(0,(.int .i64 3))] fun eb=>some ((W0 (.iface Ad eb)),e)) (pNil a (zas 0 a fun ec=>zal 1 false e ec fun ed=>zal 7 true e b fun ee=>zaf R At [ed,ee] e fun u v=>zad u 0 fun ef=>zad u 1 fun w=>pBin PP .neq Ai w (.int .i64 0) fun eg=>zaa eg fun eh=>br eh (zaz PP Ad [(0,w)] fun ei=>some ((W0 (.iface Ad ei)),v)) (some ((W1 ef),v)))))) (fun ej=>none) (some ((dv.headD undef),e))) (none)) (some ((ba.headD undef),f))) (fun ek=>none) (some ((au.headD undef),h)):=by kernel_rfl
noncomputable def za1(R:zae)(c:Value)(g:Value)(h:Value)(i:Value)(a:List Value)(d:Hp):Option Outc:=pBin PP .lss Aa (a.getD 1 undef) i fun j=>zaa j fun k=>br k (zaf R A3 [(a.getD 0 undef),c] d fun b e=>pBin PP .lss Aa b (.int .i64 0) fun l=>zaa l fun m=>br m (some (.exit 0,[(a.getD 0 undef),(a.getD 1 undef)],e)) (pBin PP .add Aa b g fun n=>za2 (a.getD 0 undef) none (some n) fun o=>pIdx 1 h (a.getD 1 undef) fun p=>zan 1 e p o fun f=>pLen .str c f fun q=>pBin PP .add Aa b q fun r=>za2 (a.getD 0 undef) (some r) none fun s=>pBin PP .add Aa (a.getD 1 undef) (.int .i64 1) fun t=>some (.next,[s,t],f))) (some (.exit 0,[(a.getD 0 undef),(a.getD 1 undef)],d))
theorem zfY(R:zae)(a d i b:Value)(c:Hp):zdB R a d i b c =
pBin PP .eql Aa b (.int .i64 0) fun l=>zaa l fun m=>br m (some ((.slice none 0 0),c)) (pBin PP .eql Ac d (.string ⟨#[]⟩) fun n=>zaa n fun o=>br o (zaf R B8 [a,b] c fun p q=>some (p,q)) (zau (pBin PP .lss Aa b (.int .i64 0) fun r=>zaa r fun s=>br s (zaf R Bg [a,d] c fun t u=>pBin PP .add Aa t (.int .i64 1) fun v=>some (.next,[v],u)) (some (.next,[b],c))) fun w j f=>zaH w (pLen .str a f fun x=>pBin PP .add Aa x (.int .i64 1) fun y=>pMM false [(j.getD 0 undef),y] fun g=>zaR 1 16 [.string ⟨#[]⟩] g g f fun h z=>pBin PP .sub Aa g (.int .i64 1) fun A=>zau (zar (za1 R d i h A) [a,(.int .i64 0)] z) fun B e k=>zaH B none (fun C=>zav C 0 (pIdx 1 h (e.getD 1 undef) fun D=>zan 1 k D (e.getD 0 undef) fun E=>pBin PP .add Aa (e.getD 1 undef) (.int .i64 1) fun F=>zcY 1 h none (some F) fun G=>some (G,E)) (none)) (some ((e.headD undef),k))) (fun H=>none) (some ((j.headD undef),f)))):=by kernel_rfl
noncomputable def za9(R:zae)(a:List Value)(b:Hp):Option Outc:=br (Nat.blt (zaS ((a.drop 0).getD 0 undef)) (zaV ((a.drop 0).getD 0 undef)).size) (pBin PP .eql Af (.int .i32 (Utf8.decode (zaV ((a.drop 0).getD 0 undef)) (zaS ((a.drop 0).getD 0 undef))).1) (.int .i32 95) fun c=>zaa c fun d=>br d (some (.ret,[(.tuple #[(.int .u64 0),(.int .i64 10)])],b)) (pBin PP .eql Af (.int .i32 (Utf8.decode (zaV ((a.drop 0).getD 0 undef)) (zaS ((a.drop 0).getD 0 undef))).1) (.int .i32 43) fun e=>zaa e fun f=>br f (some (.ret,[(.tuple #[(.int .u64 0),(.int .i64 10)])],b)) (pBin PP .eql Af (.int .i32 (Utf8.decode (zaV ((a.drop 0).getD 0 undef)) (zaS ((a.drop 0).getD 0 undef))).1) (.int .i32 45) fun g=>zaa g fun h=>br h (some (.ret,[(.tuple #[(.int .u64 0),(.int .i64 10)])],b)) (some (.next,[(.tuple #[.string (zaV ((a.drop 0).getD 0 undef)),.int .i64 (((zaS ((a.drop 0).getD 0 undef))+(Utf8.decode (zaV ((a.drop 0).getD 0 undef)) (zaS ((a.drop 0).getD 0 undef))).2):Nat)])],b))))) (some (.exit 0,[(.tuple #[.string (zaV ((a.drop 0).getD 0 undef)),.int .i64 ((zaS ((a.drop 0).getD 0 undef)):Nat)])],b))
theorem zke(R:zae)(a:Value)(b:Hp):zfV R a b =
zaf R BG [a,(.string ⟨#[48,120]⟩)] b fun c d=>zad c 0 fun e=>zad c 1 fun k=>zau (zaa k fun l=>br l (some (.next,[(.int .i64 16)],d)) (some (.next,[(.int .i64 10)],d))) fun m f g=>zaH m (ziF e fun s10=>zau (zar (za9 R) [(.tuple #[.string s10,.int .i64 (0:Nat)])] g) fun n o h=>zaH n none (fun p=>zav p 0 (zaf R Bf [e,(f.getD 0 undef),(.int .i64 64)] h fun i j=>zad i 0 fun q=>zad i 1 fun r=>zdf PP .neq Az r fun s=>zaa s fun t=>br t (some ((.tuple #[(.int .u64 0),(.int .i64 10)]),j)) (some ((.tuple #[q,(.int .i64 0)]),j))) (none)) (some ((o.headD undef),h))) (fun u=>none) (some ((f.headD undef),g)):=by kernel_rfl
noncomputable def zaG(R:zae)(c:Value)(d:Value)(e:Value)(a:List Value)(b:Hp):Option Outc:=pBin PP .lss Aa (a.getD 1 undef) d fun f=>zaa f fun g=>br g (pIdx 1 e (a.getD 1 undef) fun h=>zal 1 false b h fun i=>pBin PP .gtr Aa (a.getD 1 undef) (.int .i64 0) fun j=>zaa j fun k=>br k (pBin PP .eql Ac i c fun l=>zaa l fun m=>br m (some (.ret,[(W1 (a.getD 1 undef))],b)) (pBin PP .add Aa (a.getD 1 undef) (.int .i64 1) fun n=>some (.next,[(a.getD 0 undef),n],b))) (pBin PP .add Aa (a.getD 1 undef) (.int .i64 1) fun o=>some (.next,[(a.getD 0 undef),o],b))) (some (.exit 0,[(a.getD 0 undef),(a.getD 1 undef)],b))
theorem zgS(R:zae)(a:Value)(b:Hp):zer R a b =
zaf R BK [] b fun c d=>pLen .sl c d fun f=>zau (zar (zaG R a f c) [(.int .i64 0),(.int .i64 0)] d) fun g h e=>zaH g none (fun i=>zav i 0 (zaz PP Ad [(0,(.int .i64 3))] fun j=>some ((W0 (.iface Ad j)),e)) (none)) (some ((h.headD undef),e)):=by kernel_rfl
noncomputable def zaC(R:zae)(r:Value)(f:Value)(s:Value)(t:Value)(i:List Value)(u:List Value)(a:List Value)(g:Hp):Option Outc:=pBin PP .lss Aa (a.getD 2 undef) t fun v=>zaa v fun w=>br w (pIdx 1 s (a.getD 2 undef) fun x=>zal 1 false g x fun b=>zau (zau (pBin PP .eql Ah b (.int .u8 95) fun y=>zaa y fun z=>br z (some (.next,[r],g)) (some (.next,[(.bool false)],g))) fun A j d=>zaH A (zaa (j.getD 0 undef) fun B=>br B (some (.exit 4,[(.bool true),(.int .u8 0)],d)) (pBin PP .leq Ah (.int .u8 48) b fun C=>zaa C fun D=>br D (pBin PP .leq Ah b (.int .u8 57) fun E=>zaa E fun F=>br F (pBin PP .sub Ah b (.int .u8 48) fun G=>some (.next,[(a.getD 0 undef),G],d)) (zaf R Ar [b] d fun H k=>pBin PP .leq Ah (.int .u8 97) H fun I=>zaa I fun J=>br J (zaf R Ar [b] k fun K l=>pBin PP .leq Ah K (.int .u8 122) fun L=>zaa L fun M=>br M (zaf R Ar [b] l fun N O=>pBin PP .sub Ah N (.int .u8 97) fun P=>pBin PP .add Ah P (.int .u8 10) fun Q=>some (.next,[(a.getD 0 undef),Q],O)) (some (.ret,[(.tuple #[(.int .u64 0),(.iface Ag (.int .i64 2))])],l))) (some (.ret,[(.tuple #[(.int .u64 0),(.iface Ag (.int .i64 2))])],k)))) (zaf R Ar [b] d fun S m=>pBin PP .leq Ah (.int .u8 97) S fun T=>zaa T fun U=>br U (zaf R Ar [b] m fun V n=>pBin PP .leq Ah V (.int .u8 122) fun W=>zaa W fun X=>br X (zaf R Ar [b] n fun Y Z=>pBin PP .sub Ah Y (.int .u8 97) fun aa=>pBin PP .add Ah aa (.int .u8 10) fun ab=>some (.next,[(a.getD 0 undef),ab],Z)) (some (.ret,[(.tuple #[(.int .u64 0),(.iface Ag (.int .i64 2))])],n))) (some (.ret,[(.tuple #[(.int .u64 0),(.iface Ag (.int .i64 2))])],m))))) (fun o=>zav o 5 (some (.next,[(a.getD 0 undef),(.int .u8 0)],d)) (some (.exit o,[(a.getD 0 undef),(.int .u8 0)],d))) (some (.ret,[(j.headD undef)],d))) fun ac e c=>zaH ac (zap .u8 (i.getD 1 undef) fun ad=>pBin PP .geq Ah (e.getD 1 undef) ad fun ae=>zaa ae fun af=>br af (some (.ret,[(.tuple #[(.int .u64 0),(.iface Ag (.int .i64 2))])],c)) (pBin PP .geq Ab (a.getD 1 undef) (u.getD 0 undef) fun ag=>zaa ag fun ah=>br ah (some (.ret,[(.tuple #[f,(.iface Ag (.int .i64 1))])],c)) (zap .u64 (i.getD 1 undef) fun ai=>pBin PP .mul Ab (a.getD 1 undef) ai fun p=>zap .u64 (e.getD 1 undef) fun aj=>pBin PP .add Ab p aj fun h=>pBin PP .lss Ab h p fun ak=>zaa ak fun al=>br al (some (.ret,[(.tuple #[f,(.iface Ag (.int .i64 1))])],c)) (pBin PP .gtr Ab h f fun am=>zaa am fun ao=>br ao (some (.ret,[(.tuple #[f,(.iface Ag (.int .i64 1))])],c)) (pBin PP .add Aa (a.getD 2 undef) (.int .i64 1) fun ap=>some (.next,[(e.getD 0 undef),h,ap],c)))))) (fun q=>zav q 4 (pBin PP .add Aa (a.getD 2 undef) (.int .i64 1) fun aq=>some (.next,[(e.getD 0 undef),(a.getD 1 undef),aq],c)) (some (.exit q,[(e.getD 0 undef),(a.getD 1 undef),(a.getD 2 undef)],c))) (some (.ret,[(e.headD undef)],c))) (some (.exit 3,[(a.getD 0 undef),(a.getD 1 undef),(a.getD 2 undef)],g))
theorem zbX(R:zae)(a c g:Value)(i:Hp):zbW R a c g i =
pBin PP .eql Ac a (.string ⟨#[]⟩) fun z=>zaa z fun A=>br A (some ((.tuple #[(.int .u64 0),(.iface Ag (.int .i64 2))]),i)) (pBin PP .eql Aa c (.int .i64 0) fun B=>zau (zau (pBin PP .leq Aa (.int .i64 2) c fun C=>zaa C fun D=>br D (pBin PP .leq Aa c (.int .i64 36) fun E=>some (.next,[E],i)) (some (.next,[(.bool false)],i))) fun F o b=>zaH F (zaa (o.getD 0 undef) fun G=>br G (some (.next,[a,c],b)) (pBin PP .eql Aa c (.int .i64 0) fun H=>zaa H fun I=>br I (zcl a (.int .i64 0) fun J=>pBin PP .eql Ah J (.int .u8 48) fun K=>zaa K fun L=>br L (zau (pLen .str a b fun M=>pBin PP .geq Aa M (.int .i64 3) fun N=>zaa N fun O=>br O (zcl a (.int .i64 1) fun P=>zaf R Ar [P] b fun Q S=>pBin PP .eql Ah Q (.int .u8 98) fun T=>some (.next,[T],S)) (some (.next,[(.bool false)],b))) fun U p d=>zaH U (zaa (p.getD 0 undef) fun V=>br V (za2 a (some (.int .i64 2)) none fun W=>some (.next,[W,(.int .i64 2)],d)) (zau (pLen .str a d fun X=>pBin PP .geq Aa X (.int .i64 3) fun Y=>zaa Y fun Z=>br Z (zcl a (.int .i64 1) fun aa=>zaf R Ar [aa] d fun ab ac=>pBin PP .eql Ah ab (.int .u8 111) fun ad=>some (.next,[ad],ac)) (some (.next,[(.bool false)],d))) fun ae q e=>zaH ae (zaa (q.getD 0 undef) fun af=>br af (za2 a (some (.int .i64 2)) none fun ag=>some (.next,[ag,(.int .i64 8)],e)) (pLen .str a e fun ah=>pBin PP .geq Aa ah (.int .i64 3) fun ai=>zaa ai fun aj=>br aj (zcl a (.int .i64 1) fun ak=>zaf R Ar [ak] e fun al r=>pBin PP .eql Ah al (.int .u8 120) fun am=>zaa am fun ao=>br ao (za2 a (some (.int .i64 2)) none fun ap=>some (.next,[ap,(.int .i64 16)],r)) (za2 a (some (.int .i64 1)) none fun aq=>some (.next,[aq,(.int .i64 8)],r))) (za2 a (some (.int .i64 1)) none fun ar=>some (.next,[ar,(.int .i64 8)],e)))) (fun l=>zav l 1 (some (.next,[a,(.int .i64 10)],e)) (zav l 0 (some (.next,[a,(.int .i64 10)],e)) (some (.exit l,[a,(.int .i64 10)],e)))) (some (.ret,[(q.headD undef)],e)))) (fun m=>zav m 1 (some (.next,[a,(.int .i64 10)],d)) (zav m 0 (some (.next,[a,(.int .i64 10)],d)) (some (.exit m,[a,(.int .i64 10)],d)))) (some (.ret,[(p.headD undef)],d))) (some (.next,[a,(.int .i64 10)],b))) (some (.ret,[(.tuple #[(.int .u64 0),(.iface Ag (.int .i64 3))])],b)))) (fun s=>zav s 0 (some (.next,[a,c],b)) (some (.exit s,[a,c],b))) (some (.ret,[(o.headD undef)],b))) fun au f h=>zaH au (zau (pBin PP .eql Aa g (.int .i64 0) fun av=>zaa av fun aw=>br aw (some (.next,[(.int .i64 64)],h)) (pBin PP .lss Aa g (.int .i64 0) fun ax=>zaa ax fun ay=>br ay (some (.ret,[(.tuple #[(.int .u64 0),(.iface Ag (.int .i64 4))])],h)) (pBin PP .gtr Aa g (.int .i64 64) fun az=>zaa az fun ba=>br ba (some (.ret,[(.tuple #[(.int .u64 0),(.iface Ag (.int .i64 4))])],h)) (some (.next,[g],h))))) fun bb t j=>zaH bb (zau (pBin PP .eql Aa (f.getD 1 undef) (.int .i64 10) fun bc=>zaa bc fun bd=>br bd (some (.next,[(.int .u64 1844674407370955162)],j)) (pBin PP .eql Aa (f.getD 1 undef) (.int .i64 16) fun be=>zaa be fun bf=>br bf (some (.next,[(.int .u64 1152921504606846976)],j)) (zap .u64 (f.getD 1 undef) fun bg=>pBin PP .quo Ab (.int .u64 18446744073709551615) bg fun bh=>pBin PP .add Ab bh (.int .u64 1) fun bi=>some (.next,[bi],j)))) fun bj u v=>zaH bj (zap .u64 (t.getD 0 undef) fun bk=>pBin PP .shl Ab (.int .u64 1) bk fun bl=>pBin PP .sub Ab bl (.int .u64 1) fun bm=>zc6 (f.getD 0 undef) v fun w x=>pLen .sl w x fun bn=>zau (zar (zaC R B bm w bn f u) [(.bool false),(.int .u64 0),(.int .i64 0)] x) fun bo k n=>zaH bo none (fun bp=>zav bp 3 (zaa (k.getD 0 undef) fun bq=>br bq (zaf R BY [a] n fun bs y=>pUn .not bs fun bt=>zaa bt fun bu=>br bu (some ((.tuple #[(.int .u64 0),(.iface Ag (.int .i64 2))]),y)) (some ((.tuple #[(k.getD 1 undef),.nilIface]),y))) (some ((.tuple #[(k.getD 1 undef),.nilIface]),n))) (none)) (some ((k.headD undef),n))) (fun bv=>none) (some ((u.headD undef),v))) (fun bw=>none) (some ((t.headD undef),j))) (fun bx=>none) (some ((f.headD undef),h))):=by kernel_rfl
end Go.AM
namespace Go.AM
open Go
def HS(P:Program)(F:Nat→Option AObj):Hp:=⟨P.globals.size,fun i=>if i<P.globals.size then F i else none,fun _=>none⟩
def isInt:Value→Bool
 |.int _ _=>true
 |_=>false
theorem isInt_rel{β:Bt}{v:Value}(h:isInt v=true):VRel β v v:=by
 unfold isInt at h;split at h
 ·exact .int _ _
 ·cases h
theorem relStart{P:Program}{W:World}(h:P.globals.size≤W.heap.size){F:Nat→Option AObj}
  (hF:∀i o,F i=some o→(∃q,o=.fix q∧W.heap[i]?=some q)∨(∃cs,o=.cells cs false∧∀(j:Nat) v,cs[j]?=some v→isInt v=true∧W.cell? ⟨i,j,none⟩=some v)) :
  Rel P W (HS P F) (B00 P)∧(∀i o,(HS P F).get i=some o→o.own=false):=by
 have key:∀i o,(HS P F).get i=some o→i<P.globals.size∧F i=some o:=fun i o hi=>by
  have hi:(if i<P.globals.size then F i else none)=some o:=hi;split at hi
  ·exact⟨by assumption,hi⟩
  ·cases hi
 have hno:∀i o,(HS P F).get i=some o→o.own=false:=fun i o hi=>by rcases hF i o (key i o hi).2 with⟨q,rfl,_⟩|⟨cs,rfl,_⟩<;>rfl
 refine⟨⟨fun i cs own hi=>?_,fun i kv hi=>?_,fun i j o o' x y _ hi _ ho=>?_,fun i hi=>⟨?_,by unfold B00;rw[if_neg (by have:P.globals.size≤i:=hi;omega)]⟩,
  fun i x hx=>(by unfold B00 at hx;split at hx<;>cases hx;show i<_;omega),fun g hg=>⟨0,by unfold B00;rw[if_pos hg]⟩,fun i o hi=>?_,fun i T hi=>(by cases hi)⟩,hno⟩
 ·obtain⟨h1,h2⟩:=key i _ hi;rcases hF i _ h2 with⟨q,e,_⟩|⟨cs',e,hc⟩
  ·cases e
  ·cases e;refine⟨⟨i,0,0⟩,by unfold B00;rw[if_pos h1],fun j v hv=>?_,fun q=>by cases q⟩;obtain⟨c1,c2⟩:=hc j v hv;exact⟨v,by rw[Nat.zero_add];exact c2,isInt_rel c1⟩
 ·obtain⟨h1,h2⟩:=key i _ hi;rcases hF i _ h2 with⟨q,e,_⟩|⟨cs',e,hc⟩<;>cases e
 ·rw[hno i o hi]at ho;cases ho
 ·show (if i<P.globals.size then F i else none)=none;have:P.globals.size≤i:=hi;rw[if_neg (by omega)]
 ·obtain⟨h1,h2⟩:=key i _ hi;rcases hF i _ h2 with⟨q,e,hq⟩|⟨cs',e,hc⟩
  ·cases e;exact⟨⟨i,0,0⟩,by unfold B00;rw[if_pos h1],rfl,hq⟩
  ·cases e
end Go.AM
namespace Go.Proofs
open Go.Shelf
def Tryz.laysM246_ren:Go.Shelf.Ren:=⟨fun|246=>131|283=>150|284=>151|285=>152|286=>153|129=>164|317=>163|318=>165|319=>166|320=>167|337=>182|338=>183|n=>n,fun|2=>2|3=>3|9=>9|4=>4|171=>223|0=>0|53=>38|37=>119|5=>5|173=>225|212=>235|51=>207|20=>20|213=>236|46=>63|232=>265|233=>266|n=>n,fun|17=>3|18=>9|19=>10|n=>n⟩
theorem Tryz.laysM246:Go.Proofs.LaysM.n246 Tryz.prog Tryz.laysM246_ren:={
 mixed:=by kernel_rfl
 f129:=Tryz.func164.trans (congrArg some (by kernel_rfl))
 f246:=Tryz.func131.trans (congrArg some (by kernel_rfl))
 f283:=Tryz.func150.trans (congrArg some (by kernel_rfl))
 f284:=Tryz.func151.trans (congrArg some (by kernel_rfl))
 f285:=Tryz.func152.trans (congrArg some (by kernel_rfl))
 f286:=Tryz.func153.trans (congrArg some (by kernel_rfl))
 f317:=Tryz.func163.trans (congrArg some (by kernel_rfl))
 f318:=Tryz.func165.trans (congrArg some (by kernel_rfl))
 f319:=Tryz.func166.trans (congrArg some (by kernel_rfl))
 f320:=Tryz.func167.trans (congrArg some (by kernel_rfl))
 f337:=Tryz.func182.trans (congrArg some (by kernel_rfl))
 f338:=Tryz.func183.trans (congrArg some (by kernel_rfl))
 t0:=Tryz.underlying0
 a0:=Tryz.isAgg0
 z0:=Tryz.sizeOf0
 v0:=Tryz.zeroValue0
 t2:=Tryz.underlying2
 a2:=Tryz.isAgg2
 z2:=Tryz.sizeOf2
 v2:=Tryz.zeroValue2
 t3:=Tryz.underlying3
 a3:=Tryz.isAgg3
 z3:=Tryz.sizeOf3
 v3:=Tryz.zeroValue3
 t4:=Tryz.underlying4
 a4:=Tryz.isAgg4
 z4:=Tryz.sizeOf4
 v4:=Tryz.zeroValue4
 t5:=Tryz.underlying5
 a5:=Tryz.isAgg5
 z5:=Tryz.sizeOf5
 v5:=Tryz.zeroValue5
 t9:=Tryz.underlying9
 a9:=Tryz.isAgg9
 z9:=Tryz.sizeOf9
 v9:=Tryz.zeroValue9
 t20:=Tryz.underlying20
 a20:=Tryz.isAgg20
 z20:=Tryz.sizeOf20
 v20:=Tryz.zeroValue20
 t37:=Tryz.underlying119
 a37:=Tryz.isAgg119
 z37:=Tryz.sizeOf119
 v37:=Tryz.zeroValue119
 t46:=Tryz.underlying63
 a46:=Tryz.isAgg63
 z46:=Tryz.sizeOf63
 v46:=Tryz.zeroValue63
 t51:=Tryz.underlying207
 a51:=Tryz.isAgg207
 z51:=Tryz.sizeOf207
 v51:=Tryz.zeroValue207
 t53:=Tryz.underlying38
 a53:=Tryz.isAgg38
 z53:=Tryz.sizeOf38
 v53:=Tryz.zeroValue38
 t171:=Tryz.underlying223
 a171:=Tryz.isAgg223
 z171:=Tryz.sizeOf223
 v171:=Tryz.zeroValue223
 t173:=Tryz.underlying225
 a173:=Tryz.isAgg225
 z173:=Tryz.sizeOf225
 v173:=Tryz.zeroValue225
 t212:=Tryz.underlying235
 a212:=Tryz.isAgg235
 z212:=Tryz.sizeOf235
 v212:=Tryz.zeroValue235
 t213:=Tryz.underlying236
 a213:=Tryz.isAgg236
 z213:=Tryz.sizeOf236
 t232:=Tryz.underlying265
 a232:=Tryz.isAgg265
 z232:=Tryz.sizeOf265
 v232:=Tryz.zeroValue265
 t233:=Tryz.underlying266
 a233:=Tryz.isAgg266
 z233:=Tryz.sizeOf266
 v233:=Tryz.zeroValue266
 g17:=by kernel_rfl
 g18:=by kernel_rfl
 g19:=by kernel_rfl
 i0:=by kernel_rfl
 i2:=by kernel_rfl
 i3:=by kernel_rfl
 i4:=by kernel_rfl
 i5:=by kernel_rfl
 i9:=by kernel_rfl
 i20:=by kernel_rfl
 i37:=by kernel_rfl
 i46:=by kernel_rfl
 i51:=by kernel_rfl
 i53:=by kernel_rfl
 i171:=by kernel_rfl
 i173:=by kernel_rfl
 i212:=by kernel_rfl
 i232:=by kernel_rfl
 i233:=by kernel_rfl
 m17:=by kernel_rfl
 m18:=by kernel_rfl
 m19:=by kernel_rfl }
open Go.RowKit Go.Sort Go.Lib in
theorem Tryz.internal_strconv_FormatInt_10(n:Int)(h0:-9223372036854775808≤n)(h1:n≤9223372036854775807)(w:World)(htab:Lib.TabIs Tryz.prog w "internal/strconv.uint64pow10" .u64 Lib.pow10Tab) :
  Calls Tryz.prog 131 #[.int .i64 n,.int .i64 10] w fun e w'=>e=.returned (.string ⟨(Lib.itoa n).toArray⟩)∧∃k os,w'=grow (w.drewN k) os:=Any.internal_strconv_FormatInt_10 Tryz.laysM246 n h0 h1 w htab
def Tryz.laysC245_ren:Go.Shelf.Ren:=⟨fun|245=>161|279=>178|280=>179|281=>180|282=>181|316=>186|171=>59|205=>187|243=>98|246=>131|283=>150|284=>151|285=>152|286=>153|129=>164|317=>163|318=>165|319=>166|320=>167|337=>182|338=>183|n=>n,fun|9=>9|3=>3|75=>114|167=>249|4=>4|168=>251|210=>263|37=>119|0=>0|127=>171|145=>269|143=>267|2=>2|171=>223|53=>38|5=>5|173=>225|212=>235|51=>207|20=>20|213=>236|46=>63|232=>265|233=>266|80=>128|n=>n,fun|15=>7|16=>8|17=>3|18=>9|19=>10|n=>n⟩
theorem Tryz.laysC245:Go.Proofs.LaysC.n245 Tryz.prog Tryz.laysC245_ren:={
 mixed:=by kernel_rfl
 f129:=Tryz.func164.trans (congrArg some (by kernel_rfl))
 f171:=Tryz.func59.trans (congrArg some (by kernel_rfl))
 f205:=Tryz.func187.trans (congrArg some (by kernel_rfl))
 f243:=Tryz.func98.trans (congrArg some (by kernel_rfl))
 f245:=Tryz.func161.trans (congrArg some (by kernel_rfl))
 f246:=Tryz.func131.trans (congrArg some (by kernel_rfl))
 f279:=Tryz.func178.trans (congrArg some (by kernel_rfl))
 f280:=Tryz.func179.trans (congrArg some (by kernel_rfl))
 f281:=Tryz.func180.trans (congrArg some (by kernel_rfl))
 f282:=Tryz.func181.trans (congrArg some (by kernel_rfl))
 f283:=Tryz.func150.trans (congrArg some (by kernel_rfl))
 f284:=Tryz.func151.trans (congrArg some (by kernel_rfl))
 f285:=Tryz.func152.trans (congrArg some (by kernel_rfl))
 f286:=Tryz.func153.trans (congrArg some (by kernel_rfl))
 f316:=Tryz.func186.trans (congrArg some (by kernel_rfl))
 f317:=Tryz.func163.trans (congrArg some (by kernel_rfl))
 f318:=Tryz.func165.trans (congrArg some (by kernel_rfl))
 f319:=Tryz.func166.trans (congrArg some (by kernel_rfl))
 f320:=Tryz.func167.trans (congrArg some (by kernel_rfl))
 f337:=Tryz.func182.trans (congrArg some (by kernel_rfl))
 f338:=Tryz.func183.trans (congrArg some (by kernel_rfl))
 t0:=Tryz.underlying0
 a0:=Tryz.isAgg0
 z0:=Tryz.sizeOf0
 v0:=Tryz.zeroValue0
 t2:=Tryz.underlying2
 a2:=Tryz.isAgg2
 z2:=Tryz.sizeOf2
 v2:=Tryz.zeroValue2
 t3:=Tryz.underlying3
 a3:=Tryz.isAgg3
 z3:=Tryz.sizeOf3
 v3:=Tryz.zeroValue3
 t4:=Tryz.underlying4
 a4:=Tryz.isAgg4
 z4:=Tryz.sizeOf4
 v4:=Tryz.zeroValue4
 t5:=Tryz.underlying5
 a5:=Tryz.isAgg5
 z5:=Tryz.sizeOf5
 v5:=Tryz.zeroValue5
 t9:=Tryz.underlying9
 a9:=Tryz.isAgg9
 z9:=Tryz.sizeOf9
 v9:=Tryz.zeroValue9
 t20:=Tryz.underlying20
 a20:=Tryz.isAgg20
 z20:=Tryz.sizeOf20
 v20:=Tryz.zeroValue20
 t37:=Tryz.underlying119
 a37:=Tryz.isAgg119
 z37:=Tryz.sizeOf119
 v37:=Tryz.zeroValue119
 t46:=Tryz.underlying63
 a46:=Tryz.isAgg63
 z46:=Tryz.sizeOf63
 v46:=Tryz.zeroValue63
 t51:=Tryz.underlying207
 a51:=Tryz.isAgg207
 z51:=Tryz.sizeOf207
 v51:=Tryz.zeroValue207
 t53:=Tryz.underlying38
 a53:=Tryz.isAgg38
 z53:=Tryz.sizeOf38
 v53:=Tryz.zeroValue38
 t75:=Tryz.underlying114
 a75:=Tryz.isAgg114
 z75:=Tryz.sizeOf114
 v75:=Tryz.zeroValue114
 t127:=Tryz.underlying171
 a127:=Tryz.isAgg171
 z127:=Tryz.sizeOf171
 v127:=Tryz.zeroValue171
 t143:=Tryz.underlying267
 a143:=Tryz.isAgg267
 z143:=Tryz.sizeOf267
 v143:=Tryz.zeroValue267
 t145:=Tryz.underlying269
 a145:=Tryz.isAgg269
 z145:=Tryz.sizeOf269
 v145:=Tryz.zeroValue269
 t167:=Tryz.underlying249
 a167:=Tryz.isAgg249
 z167:=Tryz.sizeOf249
 v167:=Tryz.zeroValue249
 t168:=Tryz.underlying251
 a168:=Tryz.isAgg251
 z168:=Tryz.sizeOf251
 v168:=Tryz.zeroValue251
 t171:=Tryz.underlying223
 a171:=Tryz.isAgg223
 z171:=Tryz.sizeOf223
 v171:=Tryz.zeroValue223
 t173:=Tryz.underlying225
 a173:=Tryz.isAgg225
 z173:=Tryz.sizeOf225
 v173:=Tryz.zeroValue225
 t210:=Tryz.underlying263
 a210:=Tryz.isAgg263
 z210:=Tryz.sizeOf263
 v210:=Tryz.zeroValue263
 t212:=Tryz.underlying235
 a212:=Tryz.isAgg235
 z212:=Tryz.sizeOf235
 v212:=Tryz.zeroValue235
 t213:=Tryz.underlying236
 a213:=Tryz.isAgg236
 z213:=Tryz.sizeOf236
 t232:=Tryz.underlying265
 a232:=Tryz.isAgg265
 z232:=Tryz.sizeOf265
 v232:=Tryz.zeroValue265
 t233:=Tryz.underlying266
 a233:=Tryz.isAgg266
 z233:=Tryz.sizeOf266
 v233:=Tryz.zeroValue266
 g15:=by kernel_rfl
 g16:=by kernel_rfl
 g17:=by kernel_rfl
 g18:=by kernel_rfl
 g19:=by kernel_rfl
 t80:=Tryz.underlying128
 a80:=Tryz.isAgg128
 z80:=Tryz.sizeOf128
 v80:=Tryz.zeroValue128
 i0:=by kernel_rfl
 i2:=by kernel_rfl
 i3:=by kernel_rfl
 i4:=by kernel_rfl
 i5:=by kernel_rfl
 i9:=by kernel_rfl
 i20:=by kernel_rfl
 i37:=by kernel_rfl
 i46:=by kernel_rfl
 i51:=by kernel_rfl
 i53:=by kernel_rfl
 i75:=by kernel_rfl
 i80:=by kernel_rfl
 i127:=by kernel_rfl
 i143:=by kernel_rfl
 i145:=by kernel_rfl
 i167:=by kernel_rfl
 i168:=by kernel_rfl
 i171:=by kernel_rfl
 i173:=by kernel_rfl
 i210:=by kernel_rfl
 i212:=by kernel_rfl
 i232:=by kernel_rfl
 i233:=by kernel_rfl
 m15:=by kernel_rfl
 m16:=by kernel_rfl
 m17:=by kernel_rfl
 m18:=by kernel_rfl
 m19:=by kernel_rfl
 c0:=by kernel_rfl
 c2:=by kernel_rfl
 c3:=by kernel_rfl
 c4:=by kernel_rfl
 c5:=by kernel_rfl
 c9:=by kernel_rfl
 c20:=by kernel_rfl
 c37:=by kernel_rfl
 c46:=by kernel_rfl
 c51:=by kernel_rfl
 c53:=by kernel_rfl
 c75:=by kernel_rfl
 c80:=by kernel_rfl
 c127:=by kernel_rfl
 c143:=by kernel_rfl
 c145:=by kernel_rfl
 c167:=by kernel_rfl
 c168:=by kernel_rfl
 c171:=by kernel_rfl
 c173:=by kernel_rfl
 c210:=by kernel_rfl
 c212:=by kernel_rfl
 c213:=by kernel_rfl
 c232:=by kernel_rfl
 c233:=by kernel_rfl }
open Go.RowKit in
theorem Tryz.strconv_toError_syntax(fn s:ByteArray)(base bits:Int)(ev:Value)(w:World)(hlim:s.size≤281474976710656)(hv:w.cell? ⟨7,0,none⟩=some ev)(hev:ev=.nilIface∨∃te pe,ev=.iface te pe) :
  Calls Tryz.prog 161 #[.string fn,.string s,.int .i64 base,.int .i64 bits,.iface 249 (.int .i64 2)] w fun e w'=>∃N,e=.returned (.iface 251 (.pointer (some ⟨N,0,none⟩)))∧w.heap.size≤N∧w'.heap[N]?=some (.cells #[.string fn,.string s,ev] 263 (0,0))∧Below w.heap.size w w':=Any.strconv_toError_syntax Tryz.laysC245 fn s base bits ev w hlim hv hev
open Go.RowKit in
theorem Tryz.strconv_toError_range(fn s:ByteArray)(base bits:Int)(ev:Value)(w:World)(hlim:s.size≤281474976710656)(hv:w.cell? ⟨8,0,none⟩=some ev)(hev:ev=.nilIface∨∃te pe,ev=.iface te pe) :
  Calls Tryz.prog 161 #[.string fn,.string s,.int .i64 base,.int .i64 bits,.iface 249 (.int .i64 1)] w fun e w'=>∃N,e=.returned (.iface 251 (.pointer (some ⟨N,0,none⟩)))∧w.heap.size≤N∧w'.heap[N]?=some (.cells #[.string fn,.string s,ev] 263 (0,0))∧Below w.heap.size w w':=Any.strconv_toError_range Tryz.laysC245 fn s base bits ev w hlim hv hev
def Tryz.laysM157_ren:Go.Shelf.Ren:=⟨fun|157=>99|229=>67|199=>132|261=>154|311=>168|312=>169|n=>n,fun|9=>9|31=>69|3=>3|5=>5|4=>4|119=>196|0=>0|40=>136|152=>173|21=>21|154=>175|51=>207|141=>228|196=>240|193=>237|198=>243|49=>241|194=>238|201=>246|226=>254|46=>63|227=>255|n=>n,fun|0=>1|6=>2|n=>n⟩
theorem Tryz.laysM157:Go.Proofs.LaysM.n157 Tryz.prog Tryz.laysM157_ren:={
 mixed:=by kernel_rfl
 f157:=Tryz.func99.trans (congrArg some (by kernel_rfl))
 f199:=Tryz.func132.trans (congrArg some (by kernel_rfl))
 f229:=Tryz.func67.trans (congrArg some (by kernel_rfl))
 f261:=Tryz.func154.trans (congrArg some (by kernel_rfl))
 f311:=Tryz.func168.trans (congrArg some (by kernel_rfl))
 f312:=Tryz.func169.trans (congrArg some (by kernel_rfl))
 t0:=Tryz.underlying0
 a0:=Tryz.isAgg0
 z0:=Tryz.sizeOf0
 v0:=Tryz.zeroValue0
 t3:=Tryz.underlying3
 a3:=Tryz.isAgg3
 z3:=Tryz.sizeOf3
 v3:=Tryz.zeroValue3
 t4:=Tryz.underlying4
 a4:=Tryz.isAgg4
 z4:=Tryz.sizeOf4
 v4:=Tryz.zeroValue4
 t5:=Tryz.underlying5
 a5:=Tryz.isAgg5
 z5:=Tryz.sizeOf5
 v5:=Tryz.zeroValue5
 t9:=Tryz.underlying9
 a9:=Tryz.isAgg9
 z9:=Tryz.sizeOf9
 v9:=Tryz.zeroValue9
 t21:=Tryz.underlying21
 a21:=Tryz.isAgg21
 z21:=Tryz.sizeOf21
 v21:=Tryz.zeroValue21
 t31:=Tryz.underlying69
 a31:=Tryz.isAgg69
 z31:=Tryz.sizeOf69
 v31:=Tryz.zeroValue69
 t40:=Tryz.underlying136
 a40:=Tryz.isAgg136
 z40:=Tryz.sizeOf136
 v40:=Tryz.zeroValue136
 t46:=Tryz.underlying63
 a46:=Tryz.isAgg63
 z46:=Tryz.sizeOf63
 v46:=Tryz.zeroValue63
 t49:=Tryz.underlying241
 a49:=Tryz.isAgg241
 z49:=Tryz.sizeOf241
 v49:=Tryz.zeroValue241
 t51:=Tryz.underlying207
 a51:=Tryz.isAgg207
 z51:=Tryz.sizeOf207
 v51:=Tryz.zeroValue207
 t119:=Tryz.underlying196
 a119:=Tryz.isAgg196
 z119:=Tryz.sizeOf196
 t141:=Tryz.underlying228
 a141:=Tryz.isAgg228
 z141:=Tryz.sizeOf228
 v141:=Tryz.zeroValue228
 t152:=Tryz.underlying173
 a152:=Tryz.isAgg173
 z152:=Tryz.sizeOf173
 v152:=Tryz.zeroValue173
 t154:=Tryz.underlying175
 a154:=Tryz.isAgg175
 z154:=Tryz.sizeOf175
 v154:=Tryz.zeroValue175
 t193:=Tryz.underlying237
 a193:=Tryz.isAgg237
 z193:=Tryz.sizeOf237
 v193:=Tryz.zeroValue237
 t194:=Tryz.underlying238
 a194:=Tryz.isAgg238
 z194:=Tryz.sizeOf238
 v194:=Tryz.zeroValue238
 t196:=Tryz.underlying240
 a196:=Tryz.isAgg240
 z196:=Tryz.sizeOf240
 v196:=Tryz.zeroValue240
 t198:=Tryz.underlying243
 a198:=Tryz.isAgg243
 z198:=Tryz.sizeOf243
 v198:=Tryz.zeroValue243
 t201:=Tryz.underlying246
 a201:=Tryz.isAgg246
 z201:=Tryz.sizeOf246
 v201:=Tryz.zeroValue246
 t226:=Tryz.underlying254
 a226:=Tryz.isAgg254
 z226:=Tryz.sizeOf254
 v226:=Tryz.zeroValue254
 t227:=Tryz.underlying255
 a227:=Tryz.isAgg255
 z227:=Tryz.sizeOf255
 v227:=Tryz.zeroValue255
 g0:=by kernel_rfl
 g6:=by kernel_rfl
 i0:=by kernel_rfl
 i3:=by kernel_rfl
 i4:=by kernel_rfl
 i5:=by kernel_rfl
 i9:=by kernel_rfl
 i21:=by kernel_rfl
 i31:=by kernel_rfl
 i40:=by kernel_rfl
 i46:=by kernel_rfl
 i49:=by kernel_rfl
 i51:=by kernel_rfl
 i141:=by kernel_rfl
 i152:=by kernel_rfl
 i154:=by kernel_rfl
 i193:=by kernel_rfl
 i194:=by kernel_rfl
 i196:=by kernel_rfl
 i198:=by kernel_rfl
 i201:=by kernel_rfl
 i226:=by kernel_rfl
 i227:=by kernel_rfl
 m0:=by kernel_rfl
 m6:=by kernel_rfl }
open Go.RowKit Go.Lib in
theorem Tryz.strings_Fields_laid(s:ByteArray)(w:World)(hs:s.size<4294967281)(hascii:∀(j:Nat) b,s.data.toList[j]?=some b→b.toNat<128)(htab:Lib.TabIs Tryz.prog w "strings.asciiSpace" .u8 Lib.asciiSpaceTab) :
  Calls Tryz.prog 99 #[.string s] w fun e w'=>
   e=.returned (.slice (some ⟨w.heap.size,0,none⟩) (Lib.fields s.data.toList).length (Lib.fields s.data.toList).length)∧w'=w.alloc (.cells ((Lib.fields s.data.toList).map fun l=>Value.string ⟨l.toArray⟩).toArray 9):=Any.strings_Fields_laid Tryz.laysM157 s w hs hascii htab
end Go.Proofs
namespace Go.AM
open List Go
def zjF(k:IntKind):List Value→List Int→Bool
 |[],[]=>true
 |.int k' a::r,b::s=>decide (k'=k)&&decide (a=b)&&zjF k r s
 |_,_=>false
theorem zmV{k:IntKind}:∀(l:List Value) (s:List Int),zjF k l s=true→l=s.map fun z=>Value.int k z
 |[],[],_=>rfl
 |[],_::_,h=>by cases h
 |_::_,[],h=>by unfold zjF at h;split at h<;>simp_all
 |v::r,b::s,h=>by
  unfold zjF at h;split at h
  ·rename_i e1 e2;cases e1
  ·rename_i k' a r' b' s' e1 e2;cases e1;cases e2;rw[Bool.and_eq_true,Bool.and_eq_true,decide_eq_true_eq,decide_eq_true_eq]at h;rw[zmV r s h.2,h.1.1,h.1.2];rfl
  ·cases h
def zof:List Int:=Go.Lib.pow10Tab
def ziN:List Int:=Go.Lib.asciiSpaceTab
def extFmt(args:List Value)(H:Hp):Option (Value×Hp):=
 match args with
 |[.int .i64 n,.int .i64 10]=>if -9223372036854775808≤n∧n≤9223372036854775807 then
   match H.get AD with
   |some (.fix (.cells cs _ _))=>match zjF .u64 cs.toList zof with
    |true=>some (.string ⟨(Go.Lib.itoa n).toArray⟩,H)
    |false=>none
   |_=>none
  else none
 |_=>none
def zid(args:List Value)(H:Hp):Option (Value×Hp):=
 match args with
 |[.string s]=>if s.size<4294967281∧s.data.toList.all (fun b=>decide (b.toNat<128))=true then
   match H.get AC with
   |some (.fix (.cells cs _ _))=>match zjF .u8 cs.toList ziN with
    |true=>some (.slice (some ⟨H.next,0,some 1⟩) (Go.Lib.fields s.data.toList).length (Go.Lib.fields s.data.toList).length,H.new (.cells ((Go.Lib.fields s.data.toList).map fun l=>Value.string ⟨l.toArray⟩) true))
    |false=>none
   |_=>none
  else none
 |_=>none
def Hp.skip(H:Hp):Hp:=⟨H.next+1,H.get,H.ty⟩
def isErr:List Value→Bool
 |.iface _ _::_=>true
 |_=>false
def zlw(args:List Value)(H:Hp):Option (Value×Hp):=
 match args with
 |[.string fn,.string s,.int .i64 _,.int .i64 _,.iface t (.int .i64 c)]=>if t=Ag∧s.size≤281474976710656∧(c=1∨c=2) then
   match H.get (if c=2 then Av else Aw) with
   |some (.fix (.cells cs _ _))=>match isErr cs.toList with
    |true=>some (.iface BO (.pointer (some ⟨H.next,0,none⟩)),H.skip)
    |false=>none
   |_=>none
  else none
 |_=>none
def E0:FuncId→Option (List Value→Hp→Option (Value×Hp)):=fun f=>
 if f=B7 then some extFmt else if f=Bh then some zid else if f=B0 then some extCC else if f=BZ then some extStr
 else if f=A2 then some zlw else none
noncomputable abbrev RR:zae:=run PP orc E0
theorem zkM{P:Program}{w w':World}{H:Hp}{β:Bt}(h:Rel P w H β)(ho:w'.os=w.os)(ht:w'.tape=w.tape)(hu:w'.output=w.output)(hs:w.heap.size≤w'.heap.size)(hp:∀b,b<w.heap.size→w'.heap[b]?=w.heap[b]?) :
  Rel P w' H β∧Ext w.heap.size w H β w' H β:=
 ⟨h.frame hs fun i x hx=>hp _ (h.lt i x hx),ho,ht,hu,hs,Bt.le_refl _,Nat.le_refl _,fun b hb _=>hp b hb,fun b q=>.inr q,fun i x hx e=>by rw[hx]at e;cases e⟩
theorem Rel.skip{P:Program}{w:World}{H:Hp}{β:Bt}(h:Rel P w H β){b:Nat}(hb:b<w.heap.size)(t:Nat):Rel P w H.skip (β.set H.next ⟨b,0,t⟩)∧β.le (β.set H.next ⟨b,0,t⟩):=by
 have hf:=(h.fresh H.next (Nat.le_refl _)).2;have hle:β.le (β.set H.next ⟨b,0,t⟩):=Bt.le_set hf;have old:∀{i o y},H.get i=some o→(β.set H.next ⟨b,0,t⟩) i=some y→β i=some y:=fun {i o y} hi hy=>by obtain⟨z,hz⟩:=h.has i o hi;rw[hle i z hz]at hy;cases hy;exact hz
 refine⟨⟨fun i ds own hi=>?_,fun i kv hi=>?_,fun i j o o' x y hij hi hj ho hx hy=>h.apart i j o o' x y hij hi hj ho (old hi hx) (old hj hy),fun i hi=>?_,fun i x hx=>?_,fun g hg=>?_,fun i o hi=>?_,fun i T hi=>(h.tys i T hi).le hle⟩,hle⟩
 ·obtain⟨x,hx,h1,h2⟩:=h.cells i ds own hi;exact⟨x,hle i x hx,fun j v hv=>by obtain⟨v',h3,h4⟩:=h1 j v hv;exact⟨v',h3,h4.mono hle⟩,h2⟩
 ·obtain⟨x,hx,es,clock,h1,h2,h3⟩:=h.maps i kv hi;exact⟨x,hle i x hx,es,clock,h1,h2.mono hle,h3⟩
 ·have hi:H.next+1≤i:=hi;have:=h.fresh i (by omega);exact⟨this.1,by unfold Bt.set;rw[if_neg (by omega)];exact this.2⟩
 ·unfold Bt.set at hx;split at hx
  ·cases hx;exact hb
  ·exact h.lt i x hx
 ·obtain⟨t',ht⟩:=h.glob g hg;exact⟨t',hle g _ ht⟩
 ·obtain⟨x,hx,h1,h2⟩:=h.fix i o hi;exact⟨x,hle i x hx,h1,h2⟩
theorem LRel.two{β:Bt}{a b:Value}{l:List Value}(h:LRel β [a,b] l):∃a' b',l=[a',b']∧VRel β a a'∧VRel β b b':=by
 obtain⟨hl,hv⟩:=h
 match l,hl with
 |[x,y],_=>exact⟨x,y,rfl,hv 0 _ _ rfl rfl,hv 1 _ _ rfl rfl⟩
theorem LRel.five{β:Bt}{a b c d e:Value}{l:List Value}(h:LRel β [a,b,c,d,e] l):∃a' b' c' d' e',l=[a',b',c',d',e']∧VRel β a a'∧VRel β b b'∧VRel β c c'∧VRel β d d'∧VRel β e e':=by
 obtain⟨hl,hv⟩:=h
 match l,hl with
 |[x,y,z,u,v],_=>exact⟨x,y,z,u,v,rfl,hv 0 _ _ rfl rfl,hv 1 _ _ rfl rfl,hv 2 _ _ rfl rfl,hv 3 _ _ rfl rfl,hv 4 _ _ rfl rfl⟩
theorem tabIs{w:World}{H:Hp}{β:Bt}(hR:Rel PP w H β){name:String}{g:Nat}(hg:PP.globalNamed name=some g)(hlt:g<PP.globals.size){cs:Array Value}{e:TypeId}{fz:Nat×Nat}(h:H.get g=some (.fix (.cells cs e fz))){k:IntKind}{zs:List Int}
  (ht:zjF k cs.toList zs=true):Go.Lib.TabIs PP w name k zs:=by
 obtain⟨x,hx,_,hx2⟩:=hR.fix g _ h;obtain⟨t,ht2⟩:=hR.glob g hlt;rw[hx]at ht2;cases ht2;unfold Go.Lib.TabIs World.var?;rw[hg];have hx2:w.heap[g]?=some (.cells cs e fz):=hx2;show (match w.heap[g]? with|some (.cells cs _ _)=>some cs|_=>none)=_;rw[hx2];dsimp only;congr 1;apply Array.ext';rw[zmV _ _ ht]
theorem ziG:PP.globals.size=12:=by kernel_rfl
theorem named_pow:PP.globalNamed "internal/strconv.uint64pow10" = some AD:=by kernel_rfl
theorem named_spc:PP.globalNamed "strings.asciiSpace" = some AC:=by kernel_rfl
theorem errIs{w:World}{H:Hp}{β:Bt}(hR:Rel PP w H β){g:Nat}(hlt:g<PP.globals.size){cs:Array Value}{e:TypeId}{fz:Nat×Nat}(h:H.get g=some (.fix (.cells cs e fz)))(ht:isErr cs.toList=true) :
  ∃te pe,w.cell? ⟨g,0,none⟩=some (.iface te pe):=by
 obtain⟨x,hx,_,hx2⟩:=hR.fix g _ h;obtain⟨t,ht2⟩:=hR.glob g hlt;rw[hx]at ht2;cases ht2;obtain⟨l⟩:=cs;cases l with
 |nil=>cases ht
 |cons v r=>
  cases v with
  |iface te pe=>exact⟨te,pe,zb3.2 ⟨_,e,fz,hx2,rfl⟩⟩
  |_=>cases ht
theorem extErr_ok{args:List Value}{H:Hp}{v:Value}{H':Hp}(he:zlw args H=some (v,H')){args':List Value}{w:World}{β:Bt}(hl:LRel β args args')(hR:Rel PP w H β) :
  Calls PP A2 args'.toArray w fun x w'=>∃v' β',x=.returned v'∧Rel PP w' H' β'∧Ext w.heap.size w H β w' H' β'∧VRel β' v v':=by
 unfold zlw at he;split at he
 ·rename_i fn s i1 i2 t c;split at he
  ·rename_i hc;obtain⟨rfl,hs,hc⟩:=hc;split at he
   ·rename_i cs ty fz hg;split at he
    ·rename_i hok;cases he;obtain⟨a',b',c',d',e',rfl,ha,hb,hc',hd,he'⟩:=hl.five;cases ha;cases hb;cases hc';cases hd;cases he' with
     |iface _ _ v' hv=>
     cases hv;have fin:∀e w',(∃N,e=Ending.returned (.iface BO (.pointer (some ⟨N,0,none⟩)))∧w.heap.size≤N∧N<w'.heap.size∧RowKit.Below w.heap.size w w') →
       ∃v' β',e=.returned v'∧Rel PP w' H.skip β'∧Ext w.heap.size w H β w' H.skip β'∧VRel β' (.iface BO (.pointer (some ⟨H.next,0,none⟩))) v':=by
      rintro e w' ⟨N,rfl,h1,h2,h3⟩
      obtain⟨r1,r2⟩:=zkM hR h3.os h3.tape h3.output h3.size h3.block;obtain⟨q1,q2⟩:=r1.skip h2 0;refine⟨_,_,rfl,q1,⟨h3.os,h3.tape,h3.output,h3.size,q2,Nat.le_succ _,fun b hb _=>h3.block b hb,fun b q=>?_,fun i x hx hn=>?_⟩,.iface _ _ _ (.ptr _ 0 ⟨N,0,0⟩ (Bt.set_same _ _ _))⟩
      ·obtain⟨i,o,x,hi,ho,hx,rfl⟩:=q;have hi:H.get i=some o:=hi;obtain⟨z,hz⟩:=hR.has i o hi;rw[q2 i z hz]at hx;cases hx;exact .inr ⟨i,o,_,hi,ho,hz,rfl⟩
      ·unfold Bt.set at hx;split at hx
       ·cases hx;exact .inl h1
       ·rw[hn]at hx;cases hx
     rcases hc with rfl|rfl
     ·obtain⟨te,pe,hv⟩:=errIs hR (by rw[ziG];decide) hg hok;refine(Go.Proofs.Tryz.strconv_toError_range fn s i1 i2 _ w hs hv (.inr ⟨te,pe,rfl⟩)).mono fun e w' ⟨N,g1,g2,g3,g4⟩=>fin e w' ⟨N,g1,g2,?_,g4⟩;exact(Array.getElem?_eq_some_iff.1 g3).1
     ·obtain⟨te,pe,hv⟩:=errIs hR (by rw[ziG];decide) hg hok;refine(Go.Proofs.Tryz.strconv_toError_syntax fn s i1 i2 _ w hs hv (.inr ⟨te,pe,rfl⟩)).mono fun e w' ⟨N,g1,g2,g3,g4⟩=>fin e w' ⟨N,g1,g2,?_,g4⟩;exact(Array.getElem?_eq_some_iff.1 g3).1
    ·cases he
   ·cases he
  ·cases he
 ·cases he
theorem extE0:ExtC PP E0:=by
 intro f e hf args H v H' he args' w β hl hR;unfold E0 at hf;split at hf
 ·rename_i hf1;subst hf1;cases hf;unfold extFmt at he;split at he
  ·rename_i n;split at he
   ·rename_i hn;split at he
    ·rename_i cs ty fz hg;split at he
     ·rename_i hok;cases he;obtain⟨a',b',rfl,ha,hb⟩:=hl.two;cases ha;cases hb;have hT:=tabIs hR named_pow (by rw[ziG];decide) hg hok;refine(Go.Proofs.Tryz.internal_strconv_FormatInt_10 n hn.1 hn.2 w hT).mono fun x w' ⟨h1,k,os,h2⟩=>?_;subst h2
      obtain⟨r1,r2⟩:=zkM hR (w':=Go.Sort.grow (w.drewN k) os) rfl rfl rfl (by show w.heap.size≤(w.heap++os).size;rw[Array.size_append];omega) (fun b hb=>by
       show (w.heap++os)[b]?=_
       rw[Array.getElem?_append_left hb])
      exact⟨_,β,h1,r1,r2,.string _⟩
     ·cases he
    ·cases he
   ·cases he
  ·cases he
 ·split at hf
  ·rename_i hf2;subst hf2;cases hf;unfold zid at he;split at he
   ·rename_i s;split at he
    ·rename_i hs;split at he
     ·rename_i cs ty fz hg;split at he
      ·rename_i hok;cases he;obtain⟨a',rfl,ha⟩:=hl.single;cases ha;have hT:=tabIs hR named_spc (by rw[ziG];decide) hg hok;refine(Go.Proofs.Tryz.strings_Fields_laid s w hs.1 (fun j b hb=>of_decide_eq_true (all_eq_true.1 hs.2 b (mem_of_getElem? hb))) hT).mono fun x w' ⟨h1,h2⟩=>?_;subst h2;subst h1;have hlr:LRel β ((Go.Lib.fields s.data.toList).map fun l=>Value.string ⟨l.toArray⟩) ((((Go.Lib.fields s.data.toList).map fun l=>Value.string ⟨l.toArray⟩).toArray).toList.take ((Go.Lib.fields s.data.toList).length)):=by
        have e:(((Go.Lib.fields s.data.toList).map fun l=>Value.string ⟨l.toArray⟩).toArray).toList.take ((Go.Lib.fields s.data.toList).length)=(Go.Lib.fields s.data.toList).map fun l=>Value.string ⟨l.toArray⟩:=by rw[take_of_length_le (by simp)]
        rw[e];refine⟨rfl,fun k v v' h1 h2=>?_⟩;rw[h1]at h2;cases h2;rw[List.getElem?_map]at h1;cases q:(Go.Lib.fields s.data.toList)[k]? with
        |none=>rw[q]at h1;cases h1
        |some l=>rw[q]at h1;cases h1;exact .string _
       obtain⟨g1,g2⟩:=hR.new_cells _ (((Go.Lib.fields s.data.toList).map fun l=>Value.string ⟨l.toArray⟩).toArray) 9 (0,0) _ hlr (by intro j hj;simp);refine⟨_,_,rfl,g1,g2,?_⟩;have:=VRel.slice (β:=β.set H.next ⟨w.heap.size,0,(((Go.Lib.fields s.data.toList).map fun l=>Value.string ⟨l.toArray⟩).toArray).size⟩) H.next 0 1 (Go.Lib.fields s.data.toList).length (Go.Lib.fields s.data.toList).length _ 0 (Go.Lib.fields s.data.toList).length (Bt.set_same _ _ _) (Nat.le_refl _) (Nat.le_refl _) (by simp) (by intro;rfl);exact this
      ·cases he
     ·cases he
    ·cases he
   ·cases he
  ·split at hf
   ·rename_i hf3;subst hf3;cases hf;exact extCC_ok he hl hR
   ·split at hf
    ·rename_i hf4;subst hf4;cases hf;exact extStr_ok he hl hR
    ·split at hf
     ·rename_i hf5;subst hf5;cases hf;exact extErr_ok he hl hR
     ·cases hf
end Go.AM
namespace Go.AM
open Go
def zah(op:Int):Int:=if op=1∨op=2∨op=3∨op=4 then 0 else if op=5∨op=15∨op=16∨op=31∨op=32∨op=33 then 1 else if op=14 then 3 else 2
theorem c29(op:Int)(H:Hp):RR Au [.int .i64 op] H=some (.int .i64 (zah op),H):=by
 refine(zkP E0 rfl _ _).trans ?_;unfold zgA;simp only[zac,s_br,zaU,zaq,zdS,zaX,za4,zex,zaB,decide_eq_true_eq,qg0];unfold zah;by_cases h1:op=1
 ·simp[h1]
 by_cases h2:op=2
 ·simp[h2]
 by_cases h3:op=3
 ·simp[h3]
 by_cases h4:op=4
 ·simp[h4]
 simp only[h1,h2,h3,h4,if_false,zaq,zaX,zac,qg0,decide_false,Bool.false_eq_true,or_self,false_or];by_cases h5:op=5
 ·simp[h5]
 by_cases h6:op=15
 ·simp[h6]
 by_cases h7:op=16
 ·simp[h7]
 by_cases h8:op=31
 ·simp[h8]
 by_cases h9:op=32
 ·simp[h9]
 by_cases h10:op=33
 ·simp[h10]
 by_cases h11:op=14
 ·simp[h11]
 simp[h5,h6,h7,h8,h9,h10,h11]
end Go.AM
namespace Go.AM
open List Go
structure Nd where
 op:Int
 w:Int
 a:Int
 b:Int
 c:Int
 num:Int
 name:ByteArray
def Nd.cells(n:Nd):List Value:=[.int .i64 n.op,.int .i64 n.w,.int .i64 n.a,.int .i64 n.b,.int .i64 n.c,.int .u64 n.num,.string n.name]
def Nd.val(n:Nd):Value:=.agg n.cells.toArray
def SlR(H:Hp)(sl:Value)(L:List Nd):Prop:=
 (L=[]∧sl=.slice none 0 0)∨∃i,sl=.slice (some ⟨i,0,some 7⟩) L.length L.length∧H.get i=some (.cells (L.flatMap Nd.cells) true)
structure StR(H:Hp)(p:Nat)(lim:Int)(L:List Nd)(sl:Value)(f g:Nat):Prop where
 obj:H.get p=some (.cells [.int .i64 lim,sl,.map (some f),.map (some g)] true)
 all:SlR H sl L
section
variable {H:Hp}{p f g:Nat}{lim:Int}{L:List Nd}{sl:Value}(hs:StR H p lim L sl f g){α:Type}(k:Value→Option α)
include hs
theorem StR.l0:zal 1 false H (.pointer (some ⟨p,0,none⟩)) k=k (.int .i64 lim):=za8 hs.obj 0 _ rfl k
theorem StR.l1:zal 1 false H (.pointer (some ⟨p,1,none⟩)) k=k sl:=za8 hs.obj 1 _ rfl k
theorem StR.l2:zal 1 false H (.pointer (some ⟨p,2,none⟩)) k=k (.map (some f)):=za8 hs.obj 2 _ rfl k
theorem StR.l3:zal 1 false H (.pointer (some ⟨p,3,none⟩)) k=k (.map (some g)):=za8 hs.obj 3 _ rfl k
end
theorem SlR.len{H:Hp}{sl:Value}{L:List Nd}(h:SlR H sl L){α:Type}(k:Value→Option α):pLen .sl sl H k=k (.int .i64 L.length):=by rcases h with⟨rfl,rfl⟩|⟨i,rfl,_⟩<;>rfl
theorem zoy(L:List Nd)(i j:Nat)(hj:j<7):(L.flatMap Nd.cells)[i*7+j]?=L[i]?.bind fun n=>n.cells[j]?:=by
 induction L generalizing i with
 |nil=>simp
 |cons n L ih=>
  rw[flatMap_cons];cases i with
  |zero=>rw[Nat.zero_mul,Nat.zero_add,List.getElem?_append_left (by simp[Nd.cells];omega)];rfl
  |succ i=>
   have h7:n.cells.length=7:=rfl;rw[List.getElem?_append_right (by omega),h7,show (i+1)*7+j-7=i*7+j by omega];exact ih i
theorem flat_len(L:List Nd):(L.flatMap Nd.cells).length=L.length*7:=by
 induction L with
 |nil=>rfl
 |cons n L ih=>
  have h7:n.cells.length=7:=rfl;rw[flatMap_cons,length_append,ih,length_cons,h7];omega
def isT(L:List Nd)(t:Int):Bool:=decide (t≥1)&&decide (t≤L.length)
theorem c19{H:Hp}{p f g:Nat}{lim t:Int}{L:List Nd}{sl:Value}(hs:StR H p lim L sl f g):RR AG [.pointer (some ⟨p,0,none⟩),.int .i64 t] H=some (.bool (isT L t),H):=by refine(zht E0 rfl _ _ _).trans ?_;unfold zeC;simp only[zac,s_br,zdJ,zbC,zaN,zfc,Nat.zero_add,hs.l1,hs.all.len,decide_eq_true_eq];unfold isT;by_cases h:t≥1<;>simp[h]
theorem zda{k:IntKind}{n:Int}(h1:k.min≤n)(h2:n≤k.max):k.wrap n=n:=by cases k<;>simp[IntKind.wrap,IntKind.min,IntKind.max,IntKind.signed,IntKind.bits] at * <;> omega
def wT(L:List Nd)(d t:Int):Int:=if isT L t then (L[(t-1).toNat]?.map Nd.w).getD d else d
theorem zbb{L:List Nd}{t:Int}:isT L t=true↔1≤t∧t≤L.length:=by unfold isT;simp
theorem s_idx{H:Hp}{L:List Nd}{sl:Value}(h:SlR H sl L){t:Int}(ht:isT L t=true)(hL:(L.length:Int)≤4611686018427387904){α:Type}(k:Value→Option α) :
  ∃i n,L[(t-1).toNat]?=some n∧H.get i=some (.cells (L.flatMap Nd.cells) true)∧pIdx 7 sl (.int .i64 (IntKind.i64.wrap (t-1))) k=k (.pointer (some ⟨i,(t-1).toNat*7,none⟩)):=by
 obtain⟨h1,h2⟩:=zbb.1 ht;have hw:IntKind.i64.wrap (t-1)=t-1:=zda (by simp[IntKind.min,IntKind.signed,IntKind.bits];omega) (by simp[IntKind.max,IntKind.signed,IntKind.bits];omega);rcases h with⟨rfl,rfl⟩|⟨i,rfl,hi⟩
 ·simp at h2;omega
 ·have hlt:(t-1).toNat<L.length:=by omega
  refine⟨i,L[(t-1).toNat],by simp[hlt],hi,?_⟩;rw[hw];unfold pIdx idxV;have:(7:Nat)=7∧0≤t-1∧t-1<(L.length:Int):=⟨rfl,by omega,by omega⟩
  simp only[this,and_self,if_true,Nat.zero_add]
theorem c40{H:Hp}{p f g:Nat}{lim t:Int}{L:List Nd}{sl:Value}(hs:StR H p lim L sl f g)(hL:(L.length:Int)≤4611686018427387904):RR Aj [.pointer (some ⟨p,0,none⟩),.int .i64 t] H=some (.int .i64 (wT L (-1) t),H):=by
 refine(ziE E0 rfl _ _ _).trans ?_;unfold ze7;simp only[zag (c19 hs),zac,s_br,zbQ,zbC,zaN,zdI,Nat.zero_add,hs.l1];unfold wT;cases ht:isT L t with
 |false=>simp
 |true=>
  obtain⟨i,n,hn,hi,hx⟩:=s_idx hs.all ht hL (fun p8=>zas 1 p8 fun p9=>zal 1 false H p9 fun v10=>some (v10,H));simp only[Bool.not_true,Bool.false_eq_true,if_false,if_true];rw[hx,zaN,za8 hi _ (.int .i64 n.w) (by rw[zoy _ _ _ (by omega),hn];rfl),hn];rfl
end Go.AM
namespace Go.AM
open Go
section
variable {α:Type}{P:Program}(n:Nd)(k:Value→Option α)
theorem n0:zaj 1 false (zab n.val) 0 k=k (.int .i64 n.op):=zdR _ 0 _ rfl k
theorem n1:zaj 1 false (zab n.val) 1 k=k (.int .i64 n.w):=zdR _ 1 _ rfl k
theorem n2:zaj 1 false (zab n.val) 2 k=k (.int .i64 n.a):=zdR _ 2 _ rfl k
theorem n3:zaj 1 false (zab n.val) 3 k=k (.int .i64 n.b):=zdR _ 3 _ rfl k
theorem n4:zaj 1 false (zab n.val) 4 k=k (.int .i64 n.c):=zdR _ 4 _ rfl k
theorem n5:zaj 1 false (zab n.val) 5 k=k (.int .u64 n.num):=zdR _ 5 _ rfl k
theorem n6:zaj 1 false (zab n.val) 6 k=k (.string n.name):=zdR _ 6 _ rfl k
theorem n07:zaj 7 true (zab n.val) 0 k=k n.val:=rfl
theorem s_sneq(T:TypeId)(a b:ByteArray)(k:Value→Option α):pBin P .neq T (.string a) (.string b) k=k (.bool !(a.toList==b.toList)):=rfl
end
theorem s_ite(p:Prop) [Decidable p](x y:Bool)(H:Hp):(if p then some (Value.bool x,H) else some (Value.bool y,H))=some (Value.bool (bif decide p then x else y),H):=by by_cases h:p<;>simp[h]
def zli(n:Nd):Bool:=!(n.name.toList==(⟨#[]⟩:ByteArray).toList)
def zew(k:Int)(n:Nd):Bool:=
 (decide (k<1)&&decide (n.a≠0))||(decide (k<2)&&decide (n.b≠0))||(decide (k<3)&&decide (n.c≠0)) ||
 (decide (n.num≠0)&&decide (n.op≠3)&&decide (n.op≠31))||(zli n&&decide (n.op≠4))
theorem c41(n:Nd)(H:Hp):RR BL [n.val] H=some (.bool (zew (zah n.op) n),H):=by refine(zkO E0 rfl _ _).trans ?_;unfold zgz;simp only[n0,n2,n3,n4,n5,n6,zag (c29 _ _),za5,zbc,s_sneq,zac,s_br,s_ite];unfold zew zli;generalize zah n.op=k;congr 2;congr 1;generalize decide (k<1)=b1;generalize decide (n.a≠0)=b2;generalize decide (k<2)=b3;generalize decide (n.b≠0)=b4;generalize decide (k<3)=b5;generalize decide (n.c≠0)=b6;generalize decide (n.num≠0)=b7;generalize decide (n.op≠3)=b8;generalize decide (n.op≠31)=b9;generalize (!(n.name.toList==(⟨#[]⟩:ByteArray).toList))=b10;generalize decide (n.op≠4)=b11;simp only[Bool.decide_eq_true];cases b1<;>cases b2<;>cases b3<;>cases b4<;>cases b5<;>cases b6<;>simp<;>cases b7<;>cases b8<;>cases b9<;>simp<;>cases b10<;>simp
theorem ze4(v:Value)(l:List Value):(v::l).headD undef=v:=rfl
def zbG(op a b c:Int):Bool:=
 if zah op=0 then true
 else if op=5 then decide (a=0)
 else if op=6∨op=7∨op=8 then decide (a=0)&&decide (b=0)
 else if op=9 then decide (a=b)
 else if op=14 then decide (a=0)&&decide (b=c)
 else if op=30 then decide (a>0)&&decide (b>0)
 else if zah op=1 then decide (a>0)
 else decide (a>0)&&decide (a=b)
section
variable {H:Hp}{p f g:Nat}{lim:Int}{L:List Nd}{sl:Value}
theorem c42(hs:StR H p lim L sl f g)(hL:(L.length:Int)≤4611686018427387904)(n:Nd) :
  RR BH [.pointer (some ⟨p,0,none⟩),n.val] H=some (.bool (zbG n.op (wT L (-1) n.a) (wT L (-1) n.b) (wT L (-1) n.c)),H):=by
 refine(zfe E0 rfl _ _ _).trans ?_;unfold zdh;simp only[n0,n2,n3,n4,zag (c40 hs hL),zag (c29 _ _),zaU,zb6,zac,s_br,zaq,zdS,zaX,za4,zex,zaB,ze4,qg0,decide_eq_true_eq,if_true];unfold zbG;generalize wT L (-1) n.a=a;generalize wT L (-1) n.b=b;generalize wT L (-1) n.c=c;generalize n.op=op;by_cases h0:zah op=0
 ·simp only[h0,if_true]
 simp only[h0,if_false];by_cases h5:op=5
 ·simp only[h5,if_true]
 simp only[h5,if_false];by_cases h6:op=6
 ·simp[h6,s_ite]
 by_cases h7:op=7
 ·simp[h7,s_ite]
 by_cases h8:op=8
 ·simp[h8,s_ite]
 simp only[h6,h7,h8,if_false,or_self];by_cases h9:op=9
 ·simp[h9]
 simp only[h9,if_false];by_cases h14:op=14
 ·simp[h14];by_cases q:a=0<;>simp[q]
 simp only[h14,if_false];by_cases h30:op=30
 ·simp[h30];by_cases q:a>0<;>simp[q]
 simp only[h30,if_false];by_cases h1:zah op=1
 ·simp[h1]
 simp only[h1,if_false];by_cases q:a>0<;>simp[q]
end
theorem s_rem{α:Type}{P:Program}(T:TypeId)(kd:IntKind)(a b:Int)(hb:b≠0)(k:Value→Option α):pBin P .rem T (.int kd a) (.int kd b) k=k (.int kd (a.tmod b)):=by simp[pBin,binV,zeg,hb]
theorem ziP{α:Type}(kd k2:IntKind)(a:Int)(k:Value→Option α):zap kd (.int k2 a) k=k (.int kd (kd.wrap a)):=rfl
theorem s_and{α:Type}{P:Program}(T:TypeId)(kd:IntKind)(a b:Int)(k:Value→Option α):pBin P .and T (.int kd a) (.int kd b) k=k (.int kd (kd.wrap (BitVec.ofInt kd.bits a&&&BitVec.ofInt kd.bits b).toNat)):=by simp[pBin,binV,zeg,bvOp]
theorem s_shl{α:Type}{P:Program}(T:TypeId)(kd k2:IntKind)(a b:Int)(hb:0≤b)(k:Value→Option α):pBin P .shl T (.int kd a) (.int k2 b) k=k (.int kd (kd.wrap (a*2^(min b.toNat kd.bits)))):=by
 have:¬b<0:=by omega
 simp[pBin,binV,shOp,this]
def zjD(w x:Int):Int:=if w<1 then 0 else if w≥64 then x else x%2^w.toNat
theorem zne{w:Int}(h1:1≤w)(h2:w<64):(2:Int)^w.toNat<18446744073709551616∧(2:Int)≤2^w.toNat:=by
 have hw:w.toNat<64:=by omega
 have hw1:1≤w.toNat:=by omega
 have h3:(2:Nat)^w.toNat<2^64:=Nat.pow_lt_pow_right (by omega) hw;have h4:(2:Nat)^1≤2^w.toNat:=Nat.pow_le_pow_right (by omega) hw1;constructor
 ·have:((2^w.toNat:Nat):Int)<((2^64:Nat):Int):=Int.ofNat_lt.2 h3;simpa using this
 ·have:((2^1:Nat):Int)≤((2^w.toNat:Nat):Int):=Int.ofNat_le.2 h4;simpa using this
theorem wrap_pow{w:Int}(h1:1≤w)(h2:w<64):IntKind.u64.wrap (1*2^(min (IntKind.u64.wrap w).toNat IntKind.u64.bits))=2^w.toNat:=by have hw:IntKind.u64.wrap w=w:=zda (by simp[IntKind.min,IntKind.signed,IntKind.bits];omega) (by simp[IntKind.max,IntKind.signed,IntKind.bits];omega);rw[hw];have hb:IntKind.u64.bits=64:=rfl;rw[hb,Nat.min_eq_left (by omega),Int.one_mul];obtain⟨p1,p2⟩:=zne h1 h2;exact zda (by simp[IntKind.min,IntKind.signed,IntKind.bits];omega) (by simp[IntKind.max,IntKind.signed,IntKind.bits];omega)
theorem c45(w x:Int)(hx:0≤x)(hx2:x<18446744073709551616)(H:Hp):RR Ae [.int .i64 w,.int .u64 x] H=some (.int .u64 (zjD w x),H):=by
 refine(zl7 E0 rfl _ _ _).trans ?_;unfold zh2 zjD;simp only[za5,zdJ,zac,s_br,decide_eq_true_eq,ziP];by_cases h1:w<1
 ·simp[h1]
 by_cases h2:w≥64
 ·simp[h1,h2]
 simp only[h1,h2,if_false];have hw:IntKind.u64.wrap w=w:=zda (by simp[IntKind.min,IntKind.signed,IntKind.bits];omega) (by simp[IntKind.max,IntKind.signed,IntKind.bits];omega);obtain⟨p1,p2⟩:=zne (w:=w) (by omega) (by omega);rw[s_shl _ _ _ _ _ (by rw[hw];omega),wrap_pow (by omega) (by omega),zdI,s_and];have hm:IntKind.u64.wrap (2^w.toNat-1)=2^w.toNat-1:=zda (by simp[IntKind.min,IntKind.signed,IntKind.bits];omega) (by simp[IntKind.max,IntKind.signed,IntKind.bits];omega);rw[hm];congr 3;have hb:IntKind.u64.bits=64:=rfl;rw[hb];obtain⟨X,rfl⟩:=Int.eq_ofNat_of_zero_le hx;have e2:(2:Int)^w.toNat-1=((2^w.toNat-1:Nat):Int):=by have:1≤(2:Nat)^w.toNat:=Nat.one_le_two_pow;rw[Int.ofNat_sub this];simp
 rw[e2];have e3:BitVec.ofInt 64 ((X:Nat):Int)=BitVec.ofNat 64 X:=by simp
 have e4:BitVec.ofInt 64 (((2^w.toNat-1:Nat)):Int)=BitVec.ofNat 64 (2^w.toNat-1):=by simp
 rw[e3,e4,BitVec.toNat_and,BitVec.toNat_ofNat,BitVec.toNat_ofNat];have hX:X<2^64:=by have:(X:Int)<18446744073709551616:=hx2;omega
 have h3:(2:Nat)^w.toNat<2^64:=Nat.pow_lt_pow_right (by omega) (by omega);rw[Nat.mod_eq_of_lt hX,Nat.mod_eq_of_lt (by omega),Nat.and_two_pow_sub_one_eq_mod];have h4:X%2^w.toNat≤X:=Nat.mod_le _ _;have h5:((X:Nat):Int)%2^w.toNat=((X%2^w.toNat:Nat):Int):=by simp
 rw[h5];generalize X%2^w.toNat=Y at h4;have m1:IntKind.u64.min=0:=rfl;have m2:IntKind.u64.max=18446744073709551615:=rfl;rw[zda (by rw[m1];omega) (by rw[m2];omega)]
def isPow(w:Int):Bool:=decide (w=1∨w=2∨w=4∨w=8∨w=16∨w=32∨w=64)
def pops:List Int:=[0,1,1,2,1,2,2,3,1,2,2,3,2,3,3,4,1,2,2,3,2,3,3,4,2,3,3,4,3,4,4,5,1,2,2,3,2,3,3,4,2,3,3,4,3,4,4,5,2,3,3,4,3,4,4,5,3,4,4,5,4,5,5,6,1]
theorem all58(H:Hp):(i:Nat)→i<65→zdC RR (.int .u64 (i:Int)) H=some (.int .i64 (pops.getD i 0),H)
 |0,_=>by kernel_rfl
 |1,_=>by kernel_rfl
 |2,_=>by kernel_rfl
 |3,_=>by kernel_rfl
 |4,_=>by kernel_rfl
 |5,_=>by kernel_rfl
 |6,_=>by kernel_rfl
 |7,_=>by kernel_rfl
 |8,_=>by kernel_rfl
 |9,_=>by kernel_rfl
 |10,_=>by kernel_rfl
 |11,_=>by kernel_rfl
 |12,_=>by kernel_rfl
 |13,_=>by kernel_rfl
 |14,_=>by kernel_rfl
 |15,_=>by kernel_rfl
 |16,_=>by kernel_rfl
 |17,_=>by kernel_rfl
 |18,_=>by kernel_rfl
 |19,_=>by kernel_rfl
 |20,_=>by kernel_rfl
 |21,_=>by kernel_rfl
 |22,_=>by kernel_rfl
 |23,_=>by kernel_rfl
 |24,_=>by kernel_rfl
 |25,_=>by kernel_rfl
 |26,_=>by kernel_rfl
 |27,_=>by kernel_rfl
 |28,_=>by kernel_rfl
 |29,_=>by kernel_rfl
 |30,_=>by kernel_rfl
 |31,_=>by kernel_rfl
 |32,_=>by kernel_rfl
 |33,_=>by kernel_rfl
 |34,_=>by kernel_rfl
 |35,_=>by kernel_rfl
 |36,_=>by kernel_rfl
 |37,_=>by kernel_rfl
 |38,_=>by kernel_rfl
 |39,_=>by kernel_rfl
 |40,_=>by kernel_rfl
 |41,_=>by kernel_rfl
 |42,_=>by kernel_rfl
 |43,_=>by kernel_rfl
 |44,_=>by kernel_rfl
 |45,_=>by kernel_rfl
 |46,_=>by kernel_rfl
 |47,_=>by kernel_rfl
 |48,_=>by kernel_rfl
 |49,_=>by kernel_rfl
 |50,_=>by kernel_rfl
 |51,_=>by kernel_rfl
 |52,_=>by kernel_rfl
 |53,_=>by kernel_rfl
 |54,_=>by kernel_rfl
 |55,_=>by kernel_rfl
 |56,_=>by kernel_rfl
 |57,_=>by kernel_rfl
 |58,_=>by kernel_rfl
 |59,_=>by kernel_rfl
 |60,_=>by kernel_rfl
 |61,_=>by kernel_rfl
 |62,_=>by kernel_rfl
 |63,_=>by kernel_rfl
 |64,_=>by kernel_rfl
 |n+65,h=>by omega
theorem c53(w:Int)(h0:0≤w)(h1:w<65)(H:Hp):RR AT [.int .u64 w] H=some (.int .i64 (pops.getD w.toNat 0),H):=by
 refine(zgR E0 rfl _ _).trans ?_;unfold zes;have:RR Bu [.int .u64 w] H=some (.int .i64 (pops.getD w.toNat 0),H):=by refine(zfJ E0 rfl _ _).trans ?_;obtain⟨n,rfl⟩:=Int.eq_ofNat_of_zero_le h0;exact all58 H n (by omega)
 rw[zag this]
theorem znh:(i:Nat)→i<65→decide (pops.getD i 0=1)=isPow (i:Int)
 |0,_=>by kernel_rfl
 |1,_=>by kernel_rfl
 |2,_=>by kernel_rfl
 |3,_=>by kernel_rfl
 |4,_=>by kernel_rfl
 |5,_=>by kernel_rfl
 |6,_=>by kernel_rfl
 |7,_=>by kernel_rfl
 |8,_=>by kernel_rfl
 |9,_=>by kernel_rfl
 |10,_=>by kernel_rfl
 |11,_=>by kernel_rfl
 |12,_=>by kernel_rfl
 |13,_=>by kernel_rfl
 |14,_=>by kernel_rfl
 |15,_=>by kernel_rfl
 |16,_=>by kernel_rfl
 |17,_=>by kernel_rfl
 |18,_=>by kernel_rfl
 |19,_=>by kernel_rfl
 |20,_=>by kernel_rfl
 |21,_=>by kernel_rfl
 |22,_=>by kernel_rfl
 |23,_=>by kernel_rfl
 |24,_=>by kernel_rfl
 |25,_=>by kernel_rfl
 |26,_=>by kernel_rfl
 |27,_=>by kernel_rfl
 |28,_=>by kernel_rfl
 |29,_=>by kernel_rfl
 |30,_=>by kernel_rfl
 |31,_=>by kernel_rfl
 |32,_=>by kernel_rfl
 |33,_=>by kernel_rfl
 |34,_=>by kernel_rfl
 |35,_=>by kernel_rfl
 |36,_=>by kernel_rfl
 |37,_=>by kernel_rfl
 |38,_=>by kernel_rfl
 |39,_=>by kernel_rfl
 |40,_=>by kernel_rfl
 |41,_=>by kernel_rfl
 |42,_=>by kernel_rfl
 |43,_=>by kernel_rfl
 |44,_=>by kernel_rfl
 |45,_=>by kernel_rfl
 |46,_=>by kernel_rfl
 |47,_=>by kernel_rfl
 |48,_=>by kernel_rfl
 |49,_=>by kernel_rfl
 |50,_=>by kernel_rfl
 |51,_=>by kernel_rfl
 |52,_=>by kernel_rfl
 |53,_=>by kernel_rfl
 |54,_=>by kernel_rfl
 |55,_=>by kernel_rfl
 |56,_=>by kernel_rfl
 |57,_=>by kernel_rfl
 |58,_=>by kernel_rfl
 |59,_=>by kernel_rfl
 |60,_=>by kernel_rfl
 |61,_=>by kernel_rfl
 |62,_=>by kernel_rfl
 |63,_=>by kernel_rfl
 |64,_=>by kernel_rfl
 |n+65,h=>by omega
def zbJ(n:Nd)(a b:Int):Bool:=
 if n.op=1∨n.op=2∨(5≤n.op∧n.op≤13) then decide (n.w=0)
 else if n.op=3 then decide (n.w>0)&&decide (zjD n.w n.num=n.num)
 else if n.op=4 then true
 else if n.op=14 then decide (n.w=b)
 else if 25≤n.op∧n.op≤29 then decide (n.w=a)&&isPow a
 else if n.op=30 then decide (n.w=a+b)
 else if n.op=31 then decide (n.w≥1)&&decide (n.w≤a)&&decide (n.num≤a-n.w)
 else if n.op=32∨n.op=33 then decide (n.w≥a)
 else decide (n.w=a)
structure Nd.Ok(n:Nd):Prop where
 w0:0≤n.w
 w1:n.w≤64
 o1:1≤n.op
 o2:n.op≤33
 n0:0≤n.num
 n1:n.num<18446744073709551616
theorem zaw{x:Int}(h1:-9223372036854775808≤x)(h2:x≤9223372036854775807):IntKind.i64.wrap x=x:=zda (by have:IntKind.i64.min=-9223372036854775808:=rfl;omega) (by have:IntKind.i64.max=9223372036854775807:=rfl;omega)
theorem zgX{x:Int}(h1:0≤x)(h2:x≤18446744073709551615):IntKind.u64.wrap x=x:=zda (by have:IntKind.u64.min=0:=rfl;omega) (by have:IntKind.u64.max=18446744073709551615:=rfl;omega)
section
variable {H:Hp}{p f g:Nat}{lim:Int}{L:List Nd}{sl:Value}
theorem c43(hs:StR H p lim L sl f g)(hL:(L.length:Int)≤4611686018427387904)(n:Nd)(hn:n.Ok)
  (ha:-1≤wT L (-1) n.a∧wT L (-1) n.a≤64) (hb:-1≤wT L (-1) n.b∧wT L (-1) n.b≤64) (hsort:n.op≥15→wT L (-1) n.a>0) :
  RR BJ [.pointer (some ⟨p,0,none⟩),n.val] H=some (.bool (zbJ n (wT L (-1) n.a) (wT L (-1) n.b)),H):=by
 refine(zge E0 rfl _ _ _).trans ?_;unfold zd0;have ht:=c45 n.w n.num hn.n0 hn.n1 H;simp only[n0,n1,n2,n3,n5,zag (c40 hs hL),zaU,zb6,zdJ,zfc,zac,s_br,zaq,zdS,zaX,za4,zex,zaB,ze4,qg0,decide_eq_true_eq,if_true,ziP,zdI,zaW,zag ht];unfold zbJ;generalize wT L (-1) n.a=a at *;generalize wT L (-1) n.b=b at *;have o1:=hn.o1;have o2:=hn.o2;by_cases h1:n.op=1
 ·simp[h1]
 by_cases h2:n.op=2
 ·simp[h2]
 by_cases h5:5≤n.op∧n.op≤13
 ·have q:n.op≥5:=h5.1;simp only[h1,h2,h5,q,if_true,if_false,and_self,or_true,decide_true]
 have hc:¬(n.op=1∨n.op=2∨5≤n.op∧n.op≤13):=by omega
 simp only[hc,h1,h2,if_false];by_cases h3:n.op=3
 ·have q:¬n.op≥5:=by omega
  have q2:¬(3:Int)≥5:=by decide
  simp only[h3,q2,if_true,if_false,Bool.false_eq_true];by_cases q:n.w>0<;>simp[q]
 by_cases h4:n.op=4
 ·have q2:¬(4:Int)≥5:=by decide
  have q3:¬(4:Int)=3:=by decide
  simp only[h4,q2,q3,if_true,if_false,Bool.false_eq_true];simp
 have g5:n.op≥5:=by omega
 have g13:¬n.op≤13:=by omega
 simp only[g5,g13,h3,h4,if_true,if_false,decide_false,Bool.false_eq_true];by_cases h14:n.op=14
 ·simp only[h14,if_true];simp
 simp only[h14,if_false];have hap:=hsort (by omega);by_cases h25:25≤n.op∧n.op≤29
 ·have q:n.op≥25:=h25.1;have e:RR AT [.int .u64 (IntKind.u64.wrap a)] H=some (.int .i64 (pops.getD a.toNat 0),H):=by rw[zgX (by omega) (by omega)];exact c53 a (by omega) (by omega) H
  have e2:=znh a.toNat (by omega);have e3:((a.toNat:Nat):Int)=a:=Int.toNat_of_nonneg (by omega);rw[e3]at e2;simp only[q,h25.2,if_true,decide_true,zag e,zaU,e2,and_self];by_cases q:n.w=a<;>simp[q,h25.1]
 simp only[h25,if_false];have hA:(if n.op≥25 then some (Ctl.next,[Value.bool (decide (n.op≤29))],H) else some (Ctl.next,[Value.bool false],H))=some (Ctl.next,[Value.bool false],H):=by
  by_cases q:n.op≥25
  ·have:¬n.op≤29:=by omega
   simp[q,this]
  ·simp[q]
 have w1:IntKind.i64.wrap (a+b)=a+b:=zaw (by omega) (by omega);have w0:=hn.w0;have w64:=hn.w1;have w2:IntKind.i64.wrap (a-n.w)=a-n.w:=zaw (by omega) (by omega);by_cases q25:n.op≥25
 ·have q29:¬n.op≤29:=by omega
  simp only[q25,q29,if_true,if_false,decide_false,Bool.false_eq_true,w1,w2];by_cases h30:n.op=30
  ·simp only[h30,if_true]
   try simp
  simp only[h30,if_false];by_cases h31:n.op=31
  ·simp only[h31,if_true];by_cases k1:n.w≥1
   ·by_cases k2:n.w≤a
    ·have k3:IntKind.u64.wrap (a-n.w)=a-n.w:=zgX (by omega) (by omega);simp[k1,k2,k3]
    ·simp[k1,k2]
   ·simp[k1]
  simp only[h31,if_false];by_cases h32:n.op=32
  ·simp[h32]
  by_cases h33:n.op=33
  ·simp[h33]
  omega
 ·have h30:¬n.op=30:=by omega
  have h31:¬n.op=31:=by omega
  have h32:¬n.op=32:=by omega
  have h33:¬n.op=33:=by omega
  simp only[q25,h30,h31,h32,h33,if_false,or_self,Bool.false_eq_true];simp
end
section
end
def ze8(x:Int):Bool:=(decide (x≥97)&&decide (x≤122))||(decide (x≥65)&&decide (x≤90))||decide (x=95)
def zou(x:Int):Bool:=!(decide (x<48))&&!(decide (x>57))
def zi3(b:UInt8):Bool:=ze8 (b.toNat:Int)||zou (b.toNat:Int)
def zcn(s:ByteArray):Bool:=decide (s.size≥1)&&decide (s.size≤24)&&(s.data.toList.head?.any fun b=>ze8 (b.toNat:Int))&&(s.data.toList.drop 1).all zi3
theorem s_slen{α:Type}(s:ByteArray)(H:Hp)(k:Value→Option α):pLen .str (.string s) H k=k (.int .i64 s.size):=rfl
end Go.AM
namespace Go.AM
open List Go
theorem zmy{x:Int}(h:128≤x):ze8 x=false:=by
 unfold ze8;have h1:¬x≤122:=by omega
 have h2:¬x≤90:=by omega
 have h3:¬x=95:=by omega
 simp[h1,h2,h3]
theorem zot{x:Int}(h:128≤x):zou x=false:=by
 unfold zou;have h1:x>57:=by omega
 simp[h1]
theorem c44(s:ByteArray)(H:Hp):RR AS [.string s] H=some (.bool (zcn s),H):=by
 refine(zl8 E0 rfl _ _).trans ?_;unfold zh3
 generalize hS:(fun (l12:List Value) (H13:Hp)=>
 br (Nat.blt (zaS ((l12.drop 0).getD 0 undef)) (zaV ((l12.drop 0).getD 0 undef)).size)
 (zau (
 pBin PP .geq Af (.int .i32 (Utf8.decode (zaV ((l12.drop 0).getD 0 undef)) (zaS ((l12.drop 0).getD 0 undef))).1) (.int .i32 97) fun v14=>
 zaa v14 fun b15=>br b15
 (pBin PP .leq Af (.int .i32 (Utf8.decode (zaV ((l12.drop 0).getD 0 undef)) (zaS ((l12.drop 0).getD 0 undef))).1) (.int .i32 122) fun v16=>
 zaa v16 fun b17=>br b17
 (some (Ctl.next,[(.bool true)],H13))
 (pBin PP .geq Af (.int .i32 (Utf8.decode (zaV ((l12.drop 0).getD 0 undef)) (zaS ((l12.drop 0).getD 0 undef))).1) (.int .i32 65) fun v18=>
 zaa v18 fun b19=>br b19
 (pBin PP .leq Af (.int .i32 (Utf8.decode (zaV ((l12.drop 0).getD 0 undef)) (zaS ((l12.drop 0).getD 0 undef))).1) (.int .i32 90) fun v20=>
 zaa v20 fun b21=>br b21
 (some (Ctl.next,[(.bool true)],H13))
 (pBin PP .eql Af (.int .i32 (Utf8.decode (zaV ((l12.drop 0).getD 0 undef)) (zaS ((l12.drop 0).getD 0 undef))).1) (.int .i32 95) fun v22=>
 some (Ctl.next,[v22],H13)))
 (pBin PP .eql Af (.int .i32 (Utf8.decode (zaV ((l12.drop 0).getD 0 undef)) (zaS ((l12.drop 0).getD 0 undef))).1) (.int .i32 95) fun v23=>
 some (Ctl.next,[v23],H13))))
 (pBin PP .geq Af (.int .i32 (Utf8.decode (zaV ((l12.drop 0).getD 0 undef)) (zaS ((l12.drop 0).getD 0 undef))).1) (.int .i32 65) fun v24=>
 zaa v24 fun b25=>br b25
 (pBin PP .leq Af (.int .i32 (Utf8.decode (zaV ((l12.drop 0).getD 0 undef)) (zaS ((l12.drop 0).getD 0 undef))).1) (.int .i32 90) fun v26=>
 zaa v26 fun b27=>br b27
 (some (Ctl.next,[(.bool true)],H13))
 (pBin PP .eql Af (.int .i32 (Utf8.decode (zaV ((l12.drop 0).getD 0 undef)) (zaS ((l12.drop 0).getD 0 undef))).1) (.int .i32 95) fun v28=>
 some (Ctl.next,[v28],H13)))
 (pBin PP .eql Af (.int .i32 (Utf8.decode (zaV ((l12.drop 0).getD 0 undef)) (zaS ((l12.drop 0).getD 0 undef))).1) (.int .i32 95) fun v29=>
 some (Ctl.next,[v29],H13)))) fun q30 l31 H32=>zaH q30
 (pUn .not (l31.getD 0 undef) fun v34=>
 zaa v34 fun b35=>br b35
 (pBin PP .eql Aa (.int .i64 ((zaS ((l12.drop 0).getD 0 undef)):Nat)) (.int .i64 0) fun v36=>
 zaa v36 fun b37=>br b37
 (some (Ctl.ret,[(.bool false)],H32))
 (pBin PP .lss Af (.int .i32 (Utf8.decode (zaV ((l12.drop 0).getD 0 undef)) (zaS ((l12.drop 0).getD 0 undef))).1) (.int .i32 48) fun v38=>
 zaa v38 fun b39=>br b39
 (some (Ctl.ret,[(.bool false)],H32))
 (pBin PP .gtr Af (.int .i32 (Utf8.decode (zaV ((l12.drop 0).getD 0 undef)) (zaS ((l12.drop 0).getD 0 undef))).1) (.int .i32 57) fun v40=>
 zaa v40 fun b41=>br b41
 (some (Ctl.ret,[(.bool false)],H32))
 (some (Ctl.next,[(.tuple #[.string (zaV ((l12.drop 0).getD 0 undef)),.int .i64 (((zaS ((l12.drop 0).getD 0 undef))+(Utf8.decode (zaV ((l12.drop 0).getD 0 undef)) (zaS ((l12.drop 0).getD 0 undef))).2):Nat)])],H32)))))
 (some (Ctl.next,[(.tuple #[.string (zaV ((l12.drop 0).getD 0 undef)),.int .i64 (((zaS ((l12.drop 0).getD 0 undef))+(Utf8.decode (zaV ((l12.drop 0).getD 0 undef)) (zaS ((l12.drop 0).getD 0 undef))).2):Nat)])],H32)))
 (fun i33=>zav i33 1 (
 some (Ctl.next,[(.tuple #[.string (zaV ((l12.drop 0).getD 0 undef)),.int .i64 (((zaS ((l12.drop 0).getD 0 undef))+(Utf8.decode (zaV ((l12.drop 0).getD 0 undef)) (zaS ((l12.drop 0).getD 0 undef))).2):Nat)])],H32)) (
 some (Ctl.exit i33,[(.tuple #[.string (zaV ((l12.drop 0).getD 0 undef)),.int .i64 (((zaS ((l12.drop 0).getD 0 undef))+(Utf8.decode (zaV ((l12.drop 0).getD 0 undef)) (zaS ((l12.drop 0).getD 0 undef))).2):Nat)])],H32)))
 (some (Ctl.ret,[(l31.headD undef)],H32)))
 (some (Ctl.exit 0,[(.tuple #[.string (zaV ((l12.drop 0).getD 0 undef)),.int .i64 ((zaS ((l12.drop 0).getD 0 undef)):Nat)])],H13)))=S
 have hlen:s.data.toList.length=s.size:=by simp
 have hstep:∀(i:Nat) (b:UInt8),s.data.toList[i]?=some b→S [.tuple #[.string s,.int .i64 (i:Nat)]] H =
   if (ze8 (b.toNat:Int)||(decide (i≠0)&&zou (b.toNat:Int)))=true then some (.next,[.tuple #[.string s,.int .i64 ((i+1:Nat))]],H) else some (.ret,[.bool false],H):=by
  intro i b hb;have hl:i<s.data.toList.length:=(List.getElem?_eq_some_iff.1 hb).1;have hi:i<s.size:=by omega
  have hsb:s[i]'hi=b:=by have:s[i]=s.data[i]'(by simpa using hl):=rfl;rw[this];rw[List.getElem?_eq_getElem hl]at hb;simpa using hb
  have e1:zaV (.tuple #[.string s,.int .i64 (i:Nat)])=s:=rfl;have e2:zaS (.tuple #[.string s,.int .i64 (i:Nat)])=i:=by simp[zaS]
  have e3:Nat.blt i s.size=true:=Nat.ble_eq_true_of_le hi;have e4:((i:Nat):Int)=0↔i=0:=by omega
  rw[←hS];simp only[qd0,qg0,e1,e2,e3];simp only[zdJ,zfc,zaU,za5,zb6,zac,s_br,zaq,zdS,zaX,zbQ,qg0,if_true,decide_eq_true_eq,e4];by_cases hasc:b.toNat<128
  ·have hd:=decode_ascii s i hi (by rw[hsb];exact hasc);rw[hsb]at hd;simp only[hd];unfold ze8 zou;generalize ((b.toNat:Nat):Int)=x;by_cases a1:x≥97<;>by_cases a2:x≤122<;>by_cases a3:x≥65<;>by_cases a4:x≤90<;>by_cases a5:x=95<;>by_cases a6:i=0<;>simp[a1,a2,a3,a4,a5,a6] <;>
    (by_cases a7:x<48<;>by_cases a8:x>57<;>simp[a7,a8])
  ·have hd:=decode_high s i hi (by rw[hsb];omega);generalize Utf8.decode s i=q at hd ⊢;obtain⟨r,wd⟩:=q;have k1:¬((r:Nat):Int)≤122:=by have:=hd.1;dsimp only at this;omega
   have k2:¬((r:Nat):Int)≤90:=by omega
   have k3:¬((r:Nat):Int)=95:=by omega
   have k4:¬((r:Nat):Int)<48:=by omega
   have k5:((r:Nat):Int)>57:=by omega
   rw[zmy (by omega),zot (by omega)];simp[k1,k2,k3,k4,k5]
 have hend:S [.tuple #[.string s,.int .i64 (s.size:Nat)]] H=some (.exit 0,[.tuple #[.string s,.int .i64 (s.size:Nat)]],H):=by
  have e1:zaV (.tuple #[.string s,.int .i64 (s.size:Nat)])=s:=rfl;have e2:zaS (.tuple #[.string s,.int .i64 (s.size:Nat)])=s.size:=by simp[zaS]
  have e3:Nat.blt s.size s.size=false:=by
   cases hq:Nat.blt s.size s.size with
   |false=>rfl
   |true=>have:=Nat.le_of_ble_eq_true hq;omega
  rw[←hS];simp only[qd0,qg0,e1,e2,e3];rfl
 have hloop:∀(r:List UInt8) (i:Nat),s.data.toList.drop i=r→i≤s.size→1≤i→zar S [.tuple #[.string s,.int .i64 (i:Nat)]] H=if r.all zi3=true then some (.exit 0,[.tuple #[.string s,.int .i64 (s.size:Nat)]],H) else some (.ret,[.bool false],H):=by
  intro r;induction r with
  |nil=>
   intro i hd hi h1;have:s.data.toList.length≤i:=by simpa using hd
   have:i=s.size:=by omega
   subst this;rw[zai,hend];simp[ziH]
  |cons b r ih=>
   intro i hd hi h1;have hb:s.data.toList[i]?=some b:=by
    have:(s.data.toList.drop i)[0]?=some b:=by rw[hd];rfl
    rw[List.getElem?_drop]at this;simpa using this
   have hl:i<s.data.toList.length:=(List.getElem?_eq_some_iff.1 hb).1;have hd':s.data.toList.drop (i+1)=r:=by rw[←drop_drop,hd];rfl
   have hne:decide (i≠0)=true:=decide_eq_true (by omega);have hok:(ze8 (b.toNat:Int)||(decide (i≠0)&&zou (b.toNat:Int)))=zi3 b:=by rw[hne];rfl
   rw[zai,hstep i b hb,hok];cases hk:zi3 b with
   |true=>
    simp only[if_true,Option.bind_some,ziH];rw[ih (i+1) hd' (by omega) (by omega)];simp[hk]
   |false=>simp[hk,ziH]
 simp only[s_slen,za5,zb6,zac,s_br,decide_eq_true_eq];unfold zcn;by_cases h1:(s.size:Int)<1
 ·have:¬s.size≥1:=by omega
  simp[h1,this,zaq,zex]
 by_cases h2:(s.size:Int)>24
 ·have:¬s.size≤24:=by omega
  simp[h1,h2,this,zaq,zex]
 have g1:s.size≥1:=by omega
 have g2:s.size≤24:=by omega
 obtain⟨c,r,hcr⟩:∃c r,s.data.toList=c::r:=by
  cases hq:s.data.toList with
  |nil=>rw[hq]at hlen;simp at hlen;omega
  |cons c r=>exact⟨c,r,rfl⟩
 simp only[h1,h2,if_false,zaq,zaX];have h0:s.data.toList[0]?=some c:=by rw[hcr];rfl
 have hd1:s.data.toList.drop 1=r:=by rw[hcr];rfl
 have hlp:=hloop r 1 hd1 g1 (Nat.le_refl _);have hst:=hstep 0 c h0;have hfirst:zar S [.tuple #[.string s,.int .i64 ((0:Nat):Int)]] H=if ze8 (c.toNat:Int)=true then (if r.all zi3=true then some (.exit 0,[.tuple #[.string s,.int .i64 (s.size:Nat)]],H) else some (.ret,[.bool false],H)) else some (.ret,[.bool false],H):=by
  rw[zai,hst];cases hc:ze8 (c.toNat:Int) with
  |false=>simp[ziH]
  |true=>
   simp only[Bool.true_or,if_true,Option.bind_some,ziH];exact hlp
 show (zau (zar S [.tuple #[.string s,.int .i64 ((0:Nat):Int)]] H) _)=_;rw[hfirst,hd1,hcr];cases hc:ze8 (c.toNat:Int) with
 |false=>simp[g1,g2,hc,zaq,zex]
 |true=>
  cases r.all zi3 with
  |true=>simp[g1,g2,hc,zaq,za4,zaB]
  |false=>simp[g1,g2,hc,zaq,zex]
end Go.AM
namespace Go.AM
open Go
def ziB(b:Bool)(k:Option Bool):Option Bool:=match some b with|some true=>k|r=>r
theorem eq36c(n m:Nd):eqT PP 10000 Am n.val m.val =
  ziB (n.op==m.op) (ziB (n.w==m.w) (ziB (n.a==m.a) (ziB (n.b==m.b) (ziB (n.c==m.c) (ziB (n.num==m.num) (ziB (n.name==m.name) (some true))))))):=by
 kernel_rfl
def zi4(n m:Nd):Bool:=n.op==m.op&&(n.w==m.w&&(n.a==m.a&&(n.b==m.b&&(n.c==m.c&&(n.num==m.num&&n.name==m.name)))))
theorem eq36(n m:Nd):eqT PP 10000 Am n.val m.val=some (zi4 n m):=by rw[eq36c];unfold zi4;cases n.op==m.op<;>cases n.w==m.w<;>cases n.a==m.a<;>cases n.b==m.b<;>cases n.c==m.c<;>cases n.num==m.num<;>cases n.name==m.name<;>rfl
theorem eq9(s t:ByteArray):eqT PP 10000 Ac (.string s) (.string t)=some (s==t):=by kernel_rfl
theorem shape36(n:Nd):zdH PP 20 Am n.val=true:=by kernel_rfl
theorem zkD(s:ByteArray):zdH PP 20 Ac (.string s)=true:=by kernel_rfl
def zdF:Nat→List Nd→List (Value×Value)
 |_,[]=>[]
 |i,n::r=>(n.val,.int .i64 ((i+1:Nat):Int))::zdF (i+1) r
def zbu(n:Nd):Nat→List Nd→Option Nat
 |_,[]=>none
 |i,m::r=>if zi4 n m=true then some i else zbu n (i+1) r
theorem find36(n:Nd):∀(L:List Nd) (i j:Nat),zej PP Am n.val (zdF i L) j=some ((zbu n i L).map fun q=>(q-i+j,.int .i64 ((q+1:Nat):Int)))
 |[],i,j=>rfl
 |m::r,i,j=>by
  unfold zdF zej zbu;rw[eq36];cases h:zi4 n m with
  |true=>simp
  |false=>
   simp only[Bool.false_eq_true,if_false];rw[find36 n r (i+1) (j+1)];cases hp:zbu n (i+1) r with
   |none=>rfl
   |some q=>
    have:i+1≤q:=by
     have aux:∀(L:List Nd) (i q:Nat),zbu n i L=some q→i≤q:=by
      intro L;induction L with
      |nil=>intro i q h;cases h
      |cons m L ih=>
       intro i q h;unfold zbu at h;split at h
       ·cases h;exact Nat.le_refl _
       ·have:=ih (i+1) q h;omega
     exact aux r (i+1) q hp
    simp;omega
theorem look36{H:Hp}{f:Nat}{L:List Nd}(h:H.get f=some (.map (zdF 0 L)))(n:Nd):lookV PP Am (.int .i64 0) (.map (some f)) n.val H =
  some (match zbu n 0 L with|some q=>(.int .i64 ((q+1:Nat):Int),true)|none=>(.int .i64 0,false)):=by
 unfold lookV;rw[shape36];simp only[if_true,zmr,h,find36];cases zbu n 0 L<;>rfl
end Go.AM
namespace Go.AM
open List Go
theorem zeN(s t:ByteArray):(s==t)=true↔s=t:=by obtain⟨a⟩:=s;obtain⟨b⟩:=t;show (a==b)=true↔_;simp
theorem zjp(n:Nd):∀(L:List Nd) (i:Nat),zdF i (L++[n])=zdF i L++[(n.val,.int .i64 ((i+L.length+1:Nat):Int))]
 |[],i=>rfl
 |m::r,i=>by show (m.val,_)::zdF (i+1) (r++[n])=_;rw[zjp n r (i+1)];simp only[zdF,cons_append,length_cons];rw[show i+1+r.length+1=i+(r.length+1)+1 by omega]
theorem upd36{H:Hp}{f:Nat}{L:List Nd}(h:H.get f=some (.map (zdF 0 L)))(n:Nd)(hn:zbu n 0 L=none) :
  updV PP Am (.map (some f)) n.val (.int .i64 ((L.length+1:Nat):Int)) H=some (H.set f (some (.map (zdF 0 (L++[n]))))):=by
 unfold updV;rw[shape36];simp only[if_true,h,find36,hn,Option.map_none];rw[zjp,Nat.zero_add]
def zdw(K:List (ByteArray×Int)):List (Value×Value):=K.map fun x=>(.string x.1,.int .i64 x.2)
def zaY(s:ByteArray):Nat→List (ByteArray×Int)→Option (Nat×Int)
 |_,[]=>none
 |i,(t,w)::r=>if (s==t)=true then some (i,w) else zaY s (i+1) r
theorem find9(s:ByteArray):∀(K:List (ByteArray×Int)) (i:Nat),zej PP Ac (.string s) (zdw K) i=some ((zaY s i K).map fun q=>(q.1,.int .i64 q.2))
 |[],i=>rfl
 |(t,w)::r,i=>by
  show (match eqT PP 10000 Ac (.string s) (.string t) with|some true=>some (some (i,Value.int .i64 w))|some false=>zej PP Ac (.string s) (zdw r) (i+1)|none=>none)=_;rw[eq9];unfold zaY;cases h:s==t with
  |true=>simp
  |false=>
   simp only[Bool.false_eq_true,if_false];exact find9 s r (i+1)
theorem look9{H:Hp}{g:Nat}{K:List (ByteArray×Int)}(h:H.get g=some (.map (zdw K)))(s:ByteArray):lookV PP Ac (.int .i64 0) (.map (some g)) (.string s) H =
  some (match zaY s 0 K with|some q=>(.int .i64 q.2,true)|none=>(.int .i64 0,false)):=by
 unfold lookV;rw[zkD];simp only[if_true,zmr,h,find9];cases zaY s 0 K<;>rfl
theorem zi9(s:ByteArray):∀(K:List (ByteArray×Int)) (i j:Nat) (w:Int),zaY s i K=some (j,w)→i≤j∧K[j-i]?=some (s,w)
 |[],i,j,w,h=>by cases h
 |(t,u)::r,i,j,w,h=>by
  unfold zaY at h;split at h
  ·rename_i e;cases h;have:s=t:=(zeN s t).1 e;subst this;exact⟨Nat.le_refl _,by simp⟩
  ·obtain⟨h1,h2⟩:=zi9 s r (i+1) j w h;refine⟨by omega,?_⟩;rw[show j-i=(j-(i+1))+1 by omega];simpa using h2
def zca(s:ByteArray)(w:Int)(K:List (ByteArray×Int)):List (ByteArray×Int):=match zaY s 0 K with|some _=>K|none=>K++[(s,w)]
theorem upd9{H:Hp}{g:Nat}{K:List (ByteArray×Int)}(h:H.get g=some (.map (zdw K)))(s:ByteArray)(w:Int)(hw:∀j u,zaY s 0 K=some (j,u)→u=w) :
  updV PP Ac (.map (some g)) (.string s) (.int .i64 w) H=some (H.set g (some (.map (zdw (zca s w K))))):=by
 unfold updV zca;rw[zkD];simp only[if_true,h,find9];cases hq:zaY s 0 K with
 |none=>simp[zdw]
 |some q=>
  obtain⟨j,u⟩:=q;have hu:=hw j u hq;subst hu;obtain⟨_,h2⟩:=zi9 s K 0 j u hq;rw[Nat.sub_zero]at h2;have hk:(zdw K)[j]?=some (.string s,.int .i64 u):=by unfold zdw;rw[List.getElem?_map,h2];rfl
  have hset:zgP (zdw K) j (.string s) (.int .i64 u)=zdw K:=by
   unfold zgP;apply ext_getElem?;intro i;rw[List.getElem?_set];split
   ·rename_i e;subst e;rw[if_pos (List.getElem?_eq_some_iff.1 hk).1,hk]
   ·rfl
  have hsb:Instr.sameBits 10000 (.string s) (.string s)=true:=by simp only[Instr.sameBits];exact(zeN s s).2 rfl
  simp only[Option.map_some,hk,hsb,if_true,hset]
def slId:Value→Option Nat
 |.slice (some a) _ _=>some a.block
 |_=>none
theorem zfZ(H:Hp)(o:AObj)(i:Nat):(H.new o).get i=if i=H.next then some o else H.get i:=rfl
theorem zmD(H:Hp)(j:Nat)(o:Option AObj)(i:Nat):(H.set j o).get i=if i=j then o else H.get i:=rfl
theorem zlr(H:Hp)(j:Nat)(o:Option AObj):(H.set j o).next=H.next:=rfl
theorem zij(n:Nd):n.cells.all one=true:=rfl
theorem zmP{H:Hp}{sl:Value}{L:List Nd}(hsl:SlR H sl L){y:Nat}{own:Bool}{n:Nd}(hy:H.get y=some (.cells n.cells own))(hlt:∀i,slId sl=some i→i<H.next)(hb:(L.length+1)*64≤2^47) :
  ∃sl' H',zbm 7 64 sl (.slice (some ⟨y,0,some 7⟩) 1 1) H=some (sl',H')∧SlR H' sl' (L++[n])∧slId sl'=some H.next∧H'.next=H.next+1 ∧
   ∀j,j<H.next→slId sl≠some j→H'.get j=H.get j:=by
 have hsrc:zb9 7 (.slice (some ⟨y,0,some 7⟩) 1 1) H=some (1,n.cells):=by simp[zb9,hy,Nd.cells]
 rcases hsl with⟨rfl,rfl⟩|⟨i,rfl,hi⟩
 ·refine⟨.slice (some ⟨H.next,0,some 7⟩) 1 1,H.new (.cells n.cells true),?_,.inr ⟨H.next,rfl,?_⟩,rfl,rfl,fun j hj _=>?_⟩
  ·unfold zbm;rw[hsrc];simp[zij]
  ·rw[zfZ,if_pos rfl];simp
  ·rw[zfZ,if_neg (by omega)]
 ·refine⟨.slice (some ⟨H.next,0,some 7⟩) (L.length+1) (L.length+1),(H.set i none).new (.cells (L.flatMap Nd.cells++n.cells) true),?_,.inr ⟨H.next,by simp,?_⟩,rfl,rfl,fun j hj hne=>?_⟩
  ·unfold zbm;rw[hsrc];have h1:¬L.length+1≤L.length:=by omega
   have h2:(L.flatMap Nd.cells).take (L.length*7)=L.flatMap Nd.cells:=take_of_length_le (by rw[flat_len];omega);have h3:0+L.length*7≤(L.flatMap Nd.cells).length:=by rw[flat_len];omega
   simp only[ne_eq,not_true_eq_false,if_false,hi,h1,Nat.one_ne_zero,false_and,h3,hb,zij,and_self,if_true,qd0,h2]
  ·rw[zfZ,if_pos (zlr _ _ _).symm];simp[flatMap_append]
  ·have:j≠i:=fun e=>hne (by rw[e];rfl);rw[zfZ,zlr,if_neg (by omega),zmD,if_neg this]
end Go.AM
namespace Go.AM
open Go
noncomputable def tailM(p:Nat)(n:Nd)(H:Hp):Option (Value×Hp):=
 (pNil (.pointer (some ⟨p,0,none⟩)) (
 zas 1 (.pointer (some ⟨p,0,none⟩)) fun p124=>
 zal 1 false H p124 fun v125=>
 zaj 7 true (zab n.val) 0 fun v126=>
 zak 7 [.int .i64 0,.int .i64 0,.int .i64 0,.int .i64 0,.int .i64 0,.int .u64 0,.string ⟨#[]⟩] 1 [(0,v126)] H fun v127 H128=>
 chk (Hp.rdP H128 p124 1 false=some v125) (
 zaA 7 64 v125 v127 H128 fun v129 H130=>
 pNil (.pointer (some ⟨p,0,none⟩)) (
 zas 1 (.pointer (some ⟨p,0,none⟩)) fun p131=>
 zan 1 H130 p131 v129 fun H132=>
 pNil (.pointer (some ⟨p,0,none⟩)) (
 zas 2 (.pointer (some ⟨p,0,none⟩)) fun p133=>
 zal 1 false H132 p133 fun v134=>
 zaj 7 true (zab n.val) 0 fun v135=>
 pNil (.pointer (some ⟨p,0,none⟩)) (
 zas 1 (.pointer (some ⟨p,0,none⟩)) fun p136=>
 zal 1 false H132 p136 fun v137=>
 pLen .sl v137 H132 fun v138=>
 pUpd PP Am v134 v135 v138 H132 fun H139=>
 zaj 1 false (zab n.val) 0 fun v140=>
 pBin PP .eql Aa v140 (.int .i64 4) fun v141=>
 zaa v141 fun b142=>br b142
 (pNil (.pointer (some ⟨p,0,none⟩)) (
 zas 3 (.pointer (some ⟨p,0,none⟩)) fun p143=>
 zal 1 false H139 p143 fun v144=>
 zaj 1 false (zab n.val) 6 fun v145=>
 zaj 1 false (zab n.val) 1 fun v146=>
 pUpd PP Ac v144 v145 v146 H139 fun H147=>
 pNil (.pointer (some ⟨p,0,none⟩)) (
 zas 1 (.pointer (some ⟨p,0,none⟩)) fun p148=>
 zal 1 false H147 p148 fun v149=>
 pLen .sl v149 H147 fun v150=>
 some ((.tuple #[v150,(.int .i64 0)]),H147))))
 (pNil (.pointer (some ⟨p,0,none⟩)) (
 zas 1 (.pointer (some ⟨p,0,none⟩)) fun p151=>
 zal 1 false H139 p151 fun v152=>
 pLen .sl v152 H139 fun v153=>
 some ((.tuple #[v153,(.int .i64 0)]),H139)))))))))
theorem zjw(n:Nd)(H:Hp){α:Type}(k:Value→Hp→Option α) :
  zak 7 [.int .i64 0,.int .i64 0,.int .i64 0,.int .i64 0,.int .i64 0,.int .u64 0,.string ⟨#[]⟩] 1 [(0,n.val)] H k=k (.slice (some ⟨H.next,0,some 7⟩) 1 1) (H.new (.cells n.cells true)):=by
 have:zbl 7 [.int .i64 0,.int .i64 0,.int .i64 0,.int .i64 0,.int .i64 0,.int .u64 0,.string ⟨#[]⟩] 1 [(0,n.val)] H=some (.slice (some ⟨H.next,0,some 7⟩) 1 1,H.new (.cells n.cells true)):=by have h1:zab n.val=n.cells:=rfl;have h2:n.cells.length=7:=rfl;simp[zbl,repl,zic,h1,h2,zij,spl]
 unfold zak;rw[this]
theorem zjM{α:Type}{q:Prop}(h:q)(k:Option α):chk q k=k:=by unfold chk;exact if_pos h
structure StF(H:Hp)(p:Nat)(lim:Int)(L:List Nd)(K:List (ByteArray×Int))(sl:Value)(f g:Nat):Prop where
 st:StR H p lim L sl f g
 fm:H.get f=some (.map (zdF 0 L))
 gm:H.get g=some (.map (zdw K))
 pf:p≠f
 pg:p≠g
 fg:f≠g
 lp:p<H.next
 lf:f<H.next
 lg:g<H.next
 sa:∀i,slId sl=some i→i≠p∧i≠f∧i≠g∧i<H.next
theorem store1{α:Type}{H:Hp}{p f g:Nat}{lim:Int}{sl:Value}(hs:H.get p=some (.cells [.int .i64 lim,sl,.map (some f),.map (some g)] true))(v:Value)(hv:zab v=[v])(h1:one v=true)(k:Hp→Option α) :
  zan 1 H (.pointer (some ⟨p,1,none⟩)) v k=k (H.set p (some (.cells [.int .i64 lim,v,.map (some f),.map (some g)] true))):=by
 have:H.wr (.pointer (some ⟨p,1,none⟩)) 1 v=some (H.set p (some (.cells [.int .i64 lim,v,.map (some f),.map (some g)] true))):=by simp[Hp.wr,hs,zbf,hv,h1,spl]
 unfold zan;rw[this]
theorem zm4{α:Type}{n m:Nat}{s x:Value}{H:Hp}{v:Value}{H':Hp}(h:zbm n m s x H=some (v,H'))(k:Value→Hp→Option α):zaA n m s x H k=k v H':=by unfold zaA;rw[h]
theorem s_upd{α:Type}{P:Program}{kt:TypeId}{m key v:Value}{H H':Hp}(h:updV P kt m key v H=some H')(k:Hp→Option α):pUpd P kt m key v H k=k H':=by unfold pUpd;rw[h]
theorem tail_ok{H:Hp}{p f g:Nat}{lim:Int}{L:List Nd}{K:List (ByteArray×Int)}{sl:Value}(h:StF H p lim L K sl f g)(n:Nd)(hn:zbu n 0 L=none)(hw:n.op=4→∀j u,zaY n.name 0 K=some (j,u)→u=n.w)(hb:(L.length+1)*64≤2^47) :
  ∃H' sl',tailM p n H=some (.tuple #[.int .i64 ((L.length+1:Nat):Int),.int .i64 0],H')∧StF H' p lim (L++[n]) (if n.op=4 then zca n.name n.w K else K) sl' f g∧H.next≤H'.next ∧
   (∀j,j<H.next→j≠p→j≠f→j≠g→slId sl≠some j→H'.get j=H.get j)∧(∀i,slId sl'=some i→H.next≤i):=by
 have hlp:=h.lp;have hlf:=h.lf;have hlg:=h.lg;have hH1:∀j,j<H.next→(H.new (.cells n.cells true)).get j=H.get j:=fun j hj=>by rw[zfZ,if_neg (by omega)]
 have hsl1:SlR (H.new (.cells n.cells true)) sl L:=by
  rcases h.st.all with⟨e1,e2⟩|⟨i,e1,e2⟩
  ·exact .inl ⟨e1,e2⟩
  ·have:=(h.sa i (by rw[e1];rfl)).2.2.2;exact .inr ⟨i,e1,by rw[hH1 i this];exact e2⟩
 obtain⟨sl',H2,ha,hsl2,hid,hnx,hfr⟩:=zmP hsl1 (y:=H.next) (own:=true) (n:=n) (by rw[zfZ,if_pos rfl]) (fun i hi=>by have:=(h.sa i hi).2.2.2;show i<H.next+1;omega) hb;have hnx1:(H.new (.cells n.cells true)).next=H.next+1:=rfl;rw[hnx1]at hid hnx hfr;have hg2:∀j,j<H.next→slId sl≠some j→H2.get j=H.get j:=fun j hj hne=>by rw[hfr j (by omega) hne,hH1 j hj]
 have sp:slId sl≠some p:=fun e=>(h.sa p e).1 rfl;have sf:slId sl≠some f:=fun e=>(h.sa f e).2.1 rfl;have sg:slId sl≠some g:=fun e=>(h.sa g e).2.2.1 rfl;have hsl':∃c,sl'=.slice (some ⟨H.next+1,0,some 7⟩) (L++[n]).length c:=by
  rcases hsl2 with⟨e1,_⟩|⟨i,e1,_⟩
  ·simp at e1
  ·rw[e1]at hid;have:i=H.next+1:=by simpa[slId] using hid
   subst this;exact⟨_,e1⟩
 obtain⟨c,hslc⟩:=hsl';have hobj2:H2.get p=some (.cells [.int .i64 lim,sl,.map (some f),.map (some g)] true):=by rw[hg2 p hlp sp];exact h.st.obj
 have hcl:zab sl'=[sl']:=by rw[hslc];rfl
 have hone:one sl'=true:=by rw[hslc];rfl
 generalize hH3:H2.set p (some (.cells [.int .i64 lim,sl',.map (some f),.map (some g)] true))=H3;have g3:∀j,j≠p→H3.get j=H2.get j:=fun j hj=>by rw[←hH3,zmD,if_neg hj]
 have obj3:H3.get p=some (.cells [.int .i64 lim,sl',.map (some f),.map (some g)] true):=by rw[←hH3,zmD,if_pos rfl]
 have n3:H3.next=H.next+2:=by rw[←hH3,zlr,hnx]
 have hsl3:SlR H3 sl' (L++[n]):=by
  rcases hsl2 with⟨e1,_⟩|⟨i,e1,e2⟩
  ·simp at e1
  ·have:i=H.next+1:=by rw[e1]at hid;simpa[slId] using hid
   exact .inr ⟨i,e1,by rw[g3 i (by omega)];exact e2⟩
 have hf3:H3.get f=some (.map (zdF 0 L)):=by rw[g3 f (Ne.symm h.pf),hg2 f hlf sf];exact h.fm
 have hg3:H3.get g=some (.map (zdw K)):=by rw[g3 g (Ne.symm h.pg),hg2 g hlg sg];exact h.gm
 have st3:StR H3 p lim (L++[n]) sl' f g:=⟨obj3,hsl3⟩
 have hu:=upd36 hf3 n hn;generalize hH4:H3.set f (some (.map (zdF 0 (L++[n]))))=H4 at hu;have g4:∀j,j≠f→H4.get j=H3.get j:=fun j hj=>by rw[←hH4,zmD,if_neg hj]
 have n4:H4.next=H.next+2:=by rw[←hH4,zlr,n3]
 have obj4:H4.get p=some (.cells [.int .i64 lim,sl',.map (some f),.map (some g)] true):=by rw[g4 p h.pf];exact obj3
 have hf4:H4.get f=some (.map (zdF 0 (L++[n]))):=by rw[←hH4,zmD,if_pos rfl]
 have hg4:H4.get g=some (.map (zdw K)):=by rw[g4 g (Ne.symm h.fg)];exact hg3
 have hslk:∀{Hx:Hp},(∀j,j≠p→j≠f→j≠g→Hx.get j=H3.get j)→SlR Hx sl' (L++[n]):=fun hx=>by
  rcases hsl3 with⟨e1,_⟩|⟨i,e1,e2⟩
  ·simp at e1
  ·have:i=H.next+1:=by rw[e1]at hid;simpa[slId] using hid
   exact .inr ⟨i,e1,by rw[hx i (by omega) (by omega) (by omega)];exact e2⟩
 have st4:StR H4 p lim (L++[n]) sl' f g:=⟨obj4,hslk fun j _ hf _=>g4 j hf⟩
 have hlen:((L++[n]).length:Int)=((L.length+1:Nat):Int):=by simp
 have hapart:∀i,slId sl'=some i→i≠p∧i≠f∧i≠g∧i<H.next+2:=fun i hi=>by rw[hid]at hi;cases hi;exact⟨by omega,by omega,by omega,by omega⟩
 have hframe4:∀j,j<H.next→j≠p→j≠f→j≠g→slId sl≠some j→H4.get j=H.get j:=fun j a b c d e=>by rw[g4 j c,g3 j b,hg2 j a e]
 have hge:∀i,slId sl'=some i→H.next≤i:=fun i hi=>by rw[hid]at hi;cases hi;omega
 have hchk:Hp.rdP (H.new (.cells n.cells true)) (.pointer (some ⟨p,1,none⟩)) 1 false=some sl:=by simp[Hp.rdP,Hp.rd,hH1 p hlp,h.st.obj,zb7]
 by_cases hop:n.op=4
 ·have hu9:=upd9 hg4 n.name n.w (hw hop);generalize hH5:H4.set g (some (.map (zdw (zca n.name n.w K))))=H5 at hu9;have g5:∀j,j≠g→H5.get j=H4.get j:=fun j hj=>by rw[←hH5,zmD,if_neg hj]
  have n5:H5.next=H.next+2:=by rw[←hH5,zlr,n4]
  have obj5:H5.get p=some (.cells [.int .i64 lim,sl',.map (some f),.map (some g)] true):=by rw[g5 p h.pg];exact obj4
  have st5:StR H5 p lim (L++[n]) sl' f g:=⟨obj5,hslk fun j _ hf hg=>by rw[g5 j hg,g4 j hf]⟩
  refine⟨H5,sl',?_,⟨st5,?_,?_,h.pf,h.pg,h.fg,by omega,by omega,by omega,by rw[n5];exact hapart⟩,by omega,fun j a b c d e=>?_,hge⟩
  ·unfold tailM;simp only[zbC,zaN,Nat.zero_add,h.st.l1,n07,zjw];rw[zjM hchk,zm4 ha,store1 hobj2 sl' hcl hone,hH3];simp only[st3.l1,st3.l2,hsl3.len,hlen];rw[s_upd hu];simp only[n0,n1,n6,zaU,hop,decide_true,zac,s_br,if_true,st4.l3];rw[s_upd hu9];simp only[st5.l1,st5.all.len,hlen]
  ·rw[g5 f h.fg];exact hf4
  ·rw[if_pos hop,←hH5,zmD,if_pos rfl]
  ·rw[g5 j d];exact hframe4 j a b c d e
 ·refine⟨H4,sl',?_,⟨st4,hf4,?_,h.pf,h.pg,h.fg,by omega,by omega,by omega,by rw[n4];exact hapart⟩,by omega,hframe4,hge⟩
  ·unfold tailM;simp only[zbC,zaN,Nat.zero_add,h.st.l1,n07,zjw];rw[zjM hchk,zm4 ha,store1 hobj2 sl' hcl hone,hH3];simp only[st3.l1,st3.l2,hsl3.len,hlen];rw[s_upd hu];simp only[n0,zaU,hop,decide_false,zac,s_br,Bool.false_eq_true,if_false,st4.l1,st4.all.len,hlen]
  ·rw[if_neg hop];exact hg4
end Go.AM
namespace Go.AM
open List Go
def zbR(L:List Nd)(n:Nd):Bool:=(decide (zah n.op≥1)&&!isT L n.a)||(decide (zah n.op≥2)&&!isT L n.b)||(decide (zah n.op≥3)&&!isT L n.c)
def zbO(K:List (ByteArray×Int))(n:Nd):Bool:=!zcn n.name||(match zaY n.name 0 K with|some q=>decide (q.2≠n.w)|none=>false)
def zd7(L:List Nd)(K:List (ByteArray×Int))(n:Nd):Int:=
 if n.op<1∨n.op>33 then 73 else if n.w<0∨n.w>64 then 5 else if zbR L n=true then 70 else if zew (zah n.op) n=true then 1
 else if zbG n.op (wT L (-1) n.a) (wT L (-1) n.b) (wT L (-1) n.c)=false then 71 else if zbJ n (wT L (-1) n.a) (wT L (-1) n.b)=false then 5
 else if n.op=4∧zbO K n=true then 72 else 0
def mkR(lim:Int)(L:List Nd)(K:List (ByteArray×Int))(n:Nd):Int×Int×List Nd×List (ByteArray×Int):=
 if zd7 L K n≠0 then (0,zd7 L K n,L,K) else match zbu n 0 L with
  |some q=>(((q+1:Nat):Int),0,L,K)
  |none=>if lim>0∧(L.length:Int)≥lim then (0,4,L,K) else (((L.length+1:Nat):Int),0,L++[n],if n.op=4 then zca n.name n.w K else K)
theorem wT_bd{L:List Nd}(h:∀m∈L,0≤m.w∧m.w≤64)(t:Int):-1≤wT L (-1) t∧wT L (-1) t≤64:=by
 unfold wT;split
 ·cases hq:L[(t-1).toNat]? with
  |none=>simp
  |some m=>
   have:=h m (mem_of_getElem? hq);simp;omega
 ·omega
end Go.AM
namespace Go.AM
open Go
theorem zho{α:Type}{P:Program}{kt:TypeId}{z m key v:Value}{b:Bool}{H:Hp}(h:lookV P kt z m key H=some (v,b))(k:Value→Option α):zaZ P kt z m key true H k=k (.tuple #[v,.bool b]):=by unfold zaZ;rw[h]
theorem s_ext0{α:Type}(x y:Value)(k:Value→Option α):zad (.tuple #[x,y]) 0 k=k x:=rfl
theorem s_ext1{α:Type}(x y:Value)(k:Value→Option α):zad (.tuple #[x,y]) 1 k=k y:=rfl
noncomputable def restM(p:Nat)(n:Nd)(H:Hp):Option (Value×Hp):=
 pNil (.pointer (some ⟨p,0,none⟩)) (
 zas 2 (.pointer (some ⟨p,0,none⟩)) fun p102=>
 zal 1 false H p102 fun v103=>
 zaj 7 true (zab n.val) 0 fun v104=>
 zaZ PP Am (.int .i64 0) v103 v104 true H fun v105=>
 zad v105 0 fun v106=>
 zad v105 1 fun v107=>
 zaa v107 fun b108=>br b108
 (some ((.tuple #[v106,(.int .i64 0)]),H))
 (zau (
 pNil (.pointer (some ⟨p,0,none⟩)) (
 zas 0 (.pointer (some ⟨p,0,none⟩)) fun p109=>
 zal 1 false H p109 fun v110=>
 pBin PP .gtr Aa v110 (.int .i64 0) fun v111=>
 zaa v111 fun b112=>br b112
 (pNil (.pointer (some ⟨p,0,none⟩)) (
 zas 1 (.pointer (some ⟨p,0,none⟩)) fun p113=>
 zal 1 false H p113 fun v114=>
 pLen .sl v114 H fun v115=>
 pNil (.pointer (some ⟨p,0,none⟩)) (
 zas 0 (.pointer (some ⟨p,0,none⟩)) fun p116=>
 zal 1 false H p116 fun v117=>
 pBin PP .geq Aa v115 v117 fun v118=>
 zaa v118 fun b119=>br b119
 (some (.ret,[(.tuple #[(.int .i64 0),(.int .i64 4)])],H))
 (some (.next,[],H)))))
 (some (.next,[],H)))) fun q120 l121 H122=>zaH q120
 (pNil (.pointer (some ⟨p,0,none⟩)) (
 zas 1 (.pointer (some ⟨p,0,none⟩)) fun p124=>
 zal 1 false H122 p124 fun v125=>
 zaj 7 true (zab n.val) 0 fun v126=>
 zak 7 [.int .i64 0,.int .i64 0,.int .i64 0,.int .i64 0,.int .i64 0,.int .u64 0,.string ⟨#[]⟩] 1 [(0,v126)] H122 fun v127 H128=>
 chk (Hp.rdP H128 p124 1 false=some v125) (
 zaA 7 64 v125 v127 H128 fun v129 H130=>
 pNil (.pointer (some ⟨p,0,none⟩)) (
 zas 1 (.pointer (some ⟨p,0,none⟩)) fun p131=>
 zan 1 H130 p131 v129 fun H132=>
 pNil (.pointer (some ⟨p,0,none⟩)) (
 zas 2 (.pointer (some ⟨p,0,none⟩)) fun p133=>
 zal 1 false H132 p133 fun v134=>
 zaj 7 true (zab n.val) 0 fun v135=>
 pNil (.pointer (some ⟨p,0,none⟩)) (
 zas 1 (.pointer (some ⟨p,0,none⟩)) fun p136=>
 zal 1 false H132 p136 fun v137=>
 pLen .sl v137 H132 fun v138=>
 pUpd PP Am v134 v135 v138 H132 fun H139=>
 zaj 1 false (zab n.val) 0 fun v140=>
 pBin PP .eql Aa v140 (.int .i64 4) fun v141=>
 zaa v141 fun b142=>br b142
 (pNil (.pointer (some ⟨p,0,none⟩)) (
 zas 3 (.pointer (some ⟨p,0,none⟩)) fun p143=>
 zal 1 false H139 p143 fun v144=>
 zaj 1 false (zab n.val) 6 fun v145=>
 zaj 1 false (zab n.val) 1 fun v146=>
 pUpd PP Ac v144 v145 v146 H139 fun H147=>
 pNil (.pointer (some ⟨p,0,none⟩)) (
 zas 1 (.pointer (some ⟨p,0,none⟩)) fun p148=>
 zal 1 false H147 p148 fun v149=>
 pLen .sl v149 H147 fun v150=>
 some ((.tuple #[v150,(.int .i64 0)]),H147))))
 (pNil (.pointer (some ⟨p,0,none⟩)) (
 zas 1 (.pointer (some ⟨p,0,none⟩)) fun p151=>
 zal 1 false H139 p151 fun v152=>
 pLen .sl v152 H139 fun v153=>
 some ((.tuple #[v153,(.int .i64 0)]),H139)))))))))
 (fun i123=>none)
 (some ((l121.headD undef),H122))))
def okR(lim:Int)(L:List Nd)(K:List (ByteArray×Int))(n:Nd):Int×Int×List Nd×List (ByteArray×Int):=
 match zbu n 0 L with
  |some q=>(((q+1:Nat):Int),0,L,K)
  |none=>if lim>0∧(L.length:Int)≥lim then (0,4,L,K) else (((L.length+1:Nat):Int),0,L++[n],if n.op=4 then zca n.name n.w K else K)
structure MkOk(H:Hp)(p:Nat)(lim:Int)(sl:Value)(f g:Nat)(r:Int×Int×List Nd×List (ByteArray×Int))(H':Hp)(sl':Value):Prop where
 st:StF H' p lim r.2.2.1 r.2.2.2 sl' f g
 next:H.next≤H'.next
 frame:∀j,j<H.next→j≠p→j≠f→j≠g→slId sl≠some j→H'.get j=H.get j
 own:∀i,slId sl'=some i→slId sl=some i∨H.next≤i
theorem MkOk.stay{H:Hp}{p f g:Nat}{lim:Int}{L:List Nd}{K:List (ByteArray×Int)}{sl:Value}(h:StF H p lim L K sl f g){r:Int×Int×List Nd×List (ByteArray×Int)}(hr:r.2.2=(L,K)):MkOk H p lim sl f g r H sl:=
 ⟨by rw[hr];exact h,Nat.le_refl _,fun _ _ _ _ _ _=>rfl,fun i hi=>.inl hi⟩
theorem rest_ok{H:Hp}{p f g:Nat}{lim:Int}{L:List Nd}{K:List (ByteArray×Int)}{sl:Value}(h:StF H p lim L K sl f g)(n:Nd)(hw:n.op=4→∀j u,zaY n.name 0 K=some (j,u)→u=n.w)(hb:(L.length+1)*64≤2^47) :
  ∃H' sl',restM p n H=some (.tuple #[.int .i64 (okR lim L K n).1,.int .i64 (okR lim L K n).2.1],H')∧MkOk H p lim sl f g (okR lim L K n) H' sl':=by
 have hl36:=look36 h.fm n;unfold okR;cases hq:zbu n 0 L with
 |some q=>
  rw[hq]at hl36;refine⟨H,sl,?_,MkOk.stay h rfl⟩;unfold restM;simp only[zbC,zaN,Nat.zero_add,h.st.l2,n07,zho hl36,x01,zac,s_br,if_true]
 |none=>
  rw[hq]at hl36;by_cases hlim:lim>0∧(L.length:Int)≥lim
  ·refine⟨H,sl,?_,MkOk.stay h (by simp only[if_pos hlim])⟩;unfold restM;simp only[zbC,zaN,Nat.zero_add,Nat.add_zero,h.st.l0,h.st.l1,h.st.l2,h.st.all.len,n07,zho hl36,x01,zac,s_br,zb6,zdJ,hlim.1,hlim.2,decide_true,Bool.false_eq_true,if_false,if_true,zaq,zex,ze4,if_pos hlim,and_self]
  ·obtain⟨H',sl',h1,h2,h3,h4,h5⟩:=tail_ok h n hq hw hb;rw[if_neg hlim];refine⟨H',sl',?_,⟨h2,h3,h4,fun i hi=>.inr (h5 i hi)⟩⟩;rw[←h1];unfold restM;by_cases l1:lim>0
   ·have l2:¬((L.length:Int)≥lim):=fun q=>hlim ⟨l1,q⟩;simp only[zbC,zaN,Nat.zero_add,Nat.add_zero,h.st.l0,h.st.l1,h.st.l2,h.st.all.len,n07,zho hl36,x01,zac,s_br,zb6,zdJ,l1,l2,decide_true,decide_false,Bool.false_eq_true,if_false,if_true,zaq,zaX,ze4];unfold tailM;simp only[zbC,zaN,Nat.zero_add,Nat.add_zero,h.st.l0,h.st.l1,h.st.l2,h.st.all.len,n07,s_br]
   ·simp only[zbC,zaN,Nat.zero_add,Nat.add_zero,h.st.l0,h.st.l1,h.st.l2,h.st.all.len,n07,zho hl36,x01,zac,s_br,zb6,zdJ,l1,decide_true,decide_false,Bool.false_eq_true,if_false,if_true,zaq,zaX,ze4];unfold tailM;simp only[zbC,zaN,Nat.zero_add,Nat.add_zero,h.st.l0,h.st.l1,h.st.l2,h.st.all.len,n07,s_br]
theorem zgZ{α:Type}(a b c:Int)(k:Value→Option α):zaz PP Bo [(0,.int .i64 a),(1,.int .i64 b),(2,.int .i64 c)] k=k (.agg #[.int .i64 a,.int .i64 b,.int .i64 c]):=by
 have:zf4 PP Bo [(0,.int .i64 a),(1,.int .i64 b),(2,.int .i64 c)]=some (.agg #[.int .i64 a,.int .i64 b,.int .i64 c]):=by kernel_rfl
 unfold zaz;rw[this]
theorem s_arr0{α:Type}(a b c:Value)(k:Value→Option α):zcc 3 false 1 (.agg #[a,b,c]) (.int .i64 0) k=k a:=rfl
theorem s_arr1{α:Type}(a b c:Value)(k:Value→Option α):zcc 3 false 1 (.agg #[a,b,c]) (.int .i64 1) k=k b:=rfl
theorem s_arr2{α:Type}(a b c:Value)(k:Value→Option α):zcc 3 false 1 (.agg #[a,b,c]) (.int .i64 2) k=k c:=rfl
theorem loop3{H:Hp}{p f g:Nat}{lim:Int}{L:List Nd}{sl:Value}(hs:StR H p lim L sl f g)(n:Nd)(S:List Value→Hp→Option Outc)
  (hS:S=fun (l25:List Value) (H26:Hp)=>
 pBin PP .lss Aa (l25.getD 0 undef) (.int .i64 3) fun v27=>
 zaa v27 fun b28=>br b28
 (zcc 3 false 1 (.agg #[.int .i64 n.a,.int .i64 n.b,.int .i64 n.c]) (l25.getD 0 undef) fun v29=>
 zaf RR Au [.int .i64 n.op] H26 fun r31 H32=>
 pBin PP .lss Aa (l25.getD 0 undef) r31 fun v33=>
 zaa v33 fun b34=>br b34
 (zaf RR AG [.pointer (some ⟨p,0,none⟩),v29] H32 fun r35 H36=>
 pUn .not r35 fun v37=>
 zaa v37 fun b38=>br b38
 (some (.ret,[(.tuple #[(.int .i64 0),(.int .i64 70)])],H36))
 (pBin PP .add Aa (l25.getD 0 undef) (.int .i64 1) fun v39=>
 some (.next,[v39],H36)))
 (pBin PP .add Aa (l25.getD 0 undef) (.int .i64 1) fun v40=>
 some (.next,[v40],H32)))
 (some (.exit 0,[(l25.getD 0 undef)],H26))) :
  zar S [.int .i64 0] H=if zbR L n=true then some (.ret,[.tuple #[.int .i64 0,.int .i64 70]],H) else some (.exit 0,[.int .i64 3],H):=by
 have w1:IntKind.i64.wrap (0+1)=1:=by decide
 have w2:IntKind.i64.wrap (1+1)=2:=by decide
 have w3:IntKind.i64.wrap (2+1)=3:=by decide
 have e0:zar S [.int .i64 0] H=if (decide (zah n.op≥1)&&!isT L n.a)=true then some (.ret,[.tuple #[.int .i64 0,.int .i64 70]],H) else zar S [.int .i64 1] H:=by
  rw[zai];have:S [.int .i64 0] H=if (decide (zah n.op≥1)&&!isT L n.a)=true then some (.ret,[.tuple #[.int .i64 0,.int .i64 70]],H) else some (.next,[.int .i64 1],H):=by
   rw[hS];simp only[za5,zac,s_br,qg0,s_arr0,zag (c29 _ _),zag (c19 hs),zbQ,zaW,w1,decide_eq_true_eq];by_cases q:0<zah n.op
   ·have q2:zah n.op≥1:=by omega
    cases isT L n.a<;>simp[q,q2]
   ·have q2:¬zah n.op≥1:=by omega
    simp[q,q2]
  rw[this];split<;>rfl
 have e1:zar S [.int .i64 1] H=if (decide (zah n.op≥2)&&!isT L n.b)=true then some (.ret,[.tuple #[.int .i64 0,.int .i64 70]],H) else zar S [.int .i64 2] H:=by
  rw[zai];have:S [.int .i64 1] H=if (decide (zah n.op≥2)&&!isT L n.b)=true then some (.ret,[.tuple #[.int .i64 0,.int .i64 70]],H) else some (.next,[.int .i64 2],H):=by
   rw[hS];simp only[za5,zac,s_br,qg0,s_arr1,zag (c29 _ _),zag (c19 hs),zbQ,zaW,w2,decide_eq_true_eq];by_cases q:1<zah n.op
   ·have q2:zah n.op≥2:=by omega
    cases isT L n.b<;>simp[q,q2]
   ·have q2:¬zah n.op≥2:=by omega
    simp[q,q2]
  rw[this];split<;>rfl
 have e2:zar S [.int .i64 2] H=if (decide (zah n.op≥3)&&!isT L n.c)=true then some (.ret,[.tuple #[.int .i64 0,.int .i64 70]],H) else zar S [.int .i64 3] H:=by
  rw[zai];have:S [.int .i64 2] H=if (decide (zah n.op≥3)&&!isT L n.c)=true then some (.ret,[.tuple #[.int .i64 0,.int .i64 70]],H) else some (.next,[.int .i64 3],H):=by
   rw[hS];simp only[za5,zac,s_br,qg0,s_arr2,zag (c29 _ _),zag (c19 hs),zbQ,zaW,w3,decide_eq_true_eq];by_cases q:2<zah n.op
   ·have q2:zah n.op≥3:=by omega
    cases isT L n.c<;>simp[q,q2]
   ·have q2:¬zah n.op≥3:=by omega
    simp[q,q2]
  rw[this];split<;>rfl
 have e3:zar S [.int .i64 3] H=some (.exit 0,[.int .i64 3],H):=by
  rw[zai];have:S [.int .i64 3] H=some (.exit 0,[.int .i64 3],H):=by rw[hS];simp[za5,zac,s_br]
  rw[this];rfl
 rw[e0,e1,e2,e3];unfold zbR;cases decide (zah n.op≥1)&&!isT L n.a<;>cases decide (zah n.op≥2)&&!isT L n.b<;>cases decide (zah n.op≥3)&&!isT L n.c<;>rfl
theorem c22{H:Hp}{p f g:Nat}{lim:Int}{L:List Nd}{K:List (ByteArray×Int)}{sl:Value}(h:StF H p lim L K sl f g)(n:Nd)(hnum:0≤n.num∧n.num<18446744073709551616)
  (hW:∀m∈L,0≤m.w∧m.w≤64) (hb:(L.length+1)*64≤2^47) :
  ∃H' sl',RR At [.pointer (some ⟨p,0,none⟩),n.val] H=some (.tuple #[.int .i64 (mkR lim L K n).1,.int .i64 (mkR lim L K n).2.1],H')∧MkOk H p lim sl f g (mkR lim L K n) H' sl':=by
 have hL:(L.length:Int)≤4611686018427387904:=by omega
 have ha:=wT_bd hW n.a;have hbd:=wT_bd hW n.b;have stay:∀e:Int,zd7 L K n=e→e≠0→RR At [.pointer (some ⟨p,0,none⟩),n.val] H=some (.tuple #[.int .i64 0,.int .i64 e],H) →
   ∃H' sl',RR At [.pointer (some ⟨p,0,none⟩),n.val] H=some (.tuple #[.int .i64 (mkR lim L K n).1,.int .i64 (mkR lim L K n).2.1],H')∧MkOk H p lim sl f g (mkR lim L K n) H' sl':=fun e he h0 hr=>by
  have hm:mkR lim L K n=(0,e,L,K):=by unfold mkR;rw[he,if_pos h0]
  rw[hm];exact⟨H,sl,hr,MkOk.stay h rfl⟩
 have hrun:=zgg E0 rfl (.pointer (some ⟨p,0,none⟩)) n.val H;unfold zd2 at hrun;simp only[n0,n1,n2,n3,n4,za5,zb6,zac,s_br,zaq,zdS,zaX,zex,ze4,decide_eq_true_eq,zgZ]at hrun;by_cases hop1:n.op<1
 ·rw[if_pos hop1]at hrun;exact stay 73 (by unfold zd7;rw[if_pos (.inl hop1)]) (by decide) hrun
 rw[if_neg hop1]at hrun;by_cases hop2:n.op>33
 ·rw[if_pos hop2]at hrun;exact stay 73 (by unfold zd7;rw[if_pos (.inr hop2)]) (by decide) hrun
 rw[if_neg hop2]at hrun;have hop:¬(n.op<1∨n.op>33):=by omega
 by_cases hw1:n.w<0
 ·rw[if_pos hw1]at hrun;exact stay 5 (by unfold zd7;rw[if_neg hop,if_pos (.inl hw1)]) (by decide) hrun
 rw[if_neg hw1]at hrun;by_cases hw2:n.w>64
 ·rw[if_pos hw2]at hrun;exact stay 5 (by unfold zd7;rw[if_neg hop,if_pos (.inr hw2)]) (by decide) hrun
 rw[if_neg hw2]at hrun;have hww:¬(n.w<0∨n.w>64):=by omega
 have hloop:=loop3 h.st n _ rfl;simp only[za5,zac,s_br,zbQ,zaW,decide_eq_true_eq]at hloop;simp only[za5,zac,s_br,zbQ,zaW,decide_eq_true_eq,hloop]at hrun;by_cases hpa:zbR L n=true
 ·rw[if_pos hpa]at hrun;exact stay 70 (by unfold zd7;rw[if_neg hop,if_neg hww,if_pos hpa]) (by decide) hrun
 rw[if_neg hpa]at hrun;simp only[zaq,za4,zaB]at hrun;have pa:zah n.op≥1→isT L n.a=true:=fun q=>by
  cases e:isT L n.a with
  |true=>rfl
  |false=>exact absurd (by unfold zbR;simp[q,e]) hpa
 have hn:n.Ok:=⟨by omega,by omega,by omega,by omega,hnum.1,hnum.2⟩
 rw[n07,zag (c41 n H),zac]at hrun;by_cases hsp:zew (zah n.op) n=true
 ·rw[if_pos hsp]at hrun;exact stay 1 (by unfold zd7;rw[if_neg hop,if_neg hww,if_neg hpa,if_pos hsp]) (by decide) hrun
 rw[if_neg hsp]at hrun;rw[n07,zag (c42 h.st hL n),zbQ,zac]at hrun;cases hso:zbG n.op (wT L (-1) n.a) (wT L (-1) n.b) (wT L (-1) n.c) with
 |false=>
  rw[hso]at hrun;simp only[Bool.not_false,if_true]at hrun;exact stay 71 (by unfold zd7;rw[if_neg hop,if_neg hww,if_neg hpa,if_neg hsp,if_pos hso]) (by decide) hrun
 |true=>
 have hsort:n.op≥15→wT L (-1) n.a>0:=fun q=>by
  have q0:zah n.op≠0:=by unfold zah;(repeat' split)<;>omega
  have:=hso;unfold zbG at this;rw[if_neg q0,if_neg (by omega),if_neg (by omega),if_neg (by omega),if_neg (by omega)]at this;split at this
  ·simp at this;omega
  ·split at this
   ·simpa using this
   ·simp at this;omega
 rw[hso]at hrun;simp only[Bool.not_true,Bool.false_eq_true,if_false]at hrun;rw[n07,zag (c43 h.st hL n hn ha hbd hsort),zbQ,zac]at hrun;cases hwi:zbJ n (wT L (-1) n.a) (wT L (-1) n.b) with
 |false=>
  rw[hwi]at hrun;simp only[Bool.not_false,if_true]at hrun;exact stay 5 (by unfold zd7;rw[if_neg hop,if_neg hww,if_neg hpa,if_neg hsp,hso,if_neg (by decide),if_pos hwi]) (by decide) hrun
 |true=>
 rw[hwi]at hrun;simp only[Bool.not_true,Bool.false_eq_true,if_false]at hrun;have hl9:=look9 h.gm n.name;have hnm:n.op=4→zbO K n=true→RR At [.pointer (some ⟨p,0,none⟩),n.val] H=some (.tuple #[.int .i64 0,.int .i64 72],H):=by
  intro h4 hbad;refine hrun.trans ?_;simp only[h4,zaU,decide_true,zac,s_br,if_true,zbC,zaN,Nat.zero_add,h.st.l3,n6,n1,zho hl9];unfold zbO at hbad;cases hq:zaY n.name 0 K with
  |none=>
   rw[hq]at hbad;simp only[x01,zag (c44 n.name H),zbQ,zac,s_br];cases hno:zcn n.name with
   |true=>rw[hno]at hbad;cases hbad
   |false=>simp[zaq,zex,ze4]
  |some q=>
   rw[hq]at hbad;simp only[x01,zag (c44 n.name H),zbQ,zac,s_br,zbc];cases hno:zcn n.name with
   |true=>
    rw[hno]at hbad;have hne:q.2≠n.w:=by simpa using hbad
    simp[hne,zaq,zex,ze4]
   |false=>simp[zaq,zex,ze4]
 by_cases hbad:n.op=4∧zbO K n=true
 ·exact stay 72 (by unfold zd7;rw[if_neg hop,if_neg hww,if_neg hpa,if_neg hsp,hso,if_neg (by decide),hwi,if_neg (by decide),if_pos hbad]) (by decide) (hnm hbad.1 hbad.2)
 have herr:zd7 L K n=0:=by unfold zd7;rw[if_neg hop,if_neg hww,if_neg hpa,if_neg hsp,hso,if_neg (by decide),hwi,if_neg (by decide),if_neg hbad]
 have hmk:mkR lim L K n=okR lim L K n:=by unfold mkR;rw[herr];rfl
 rw[hmk];have hgood:n.op=4→zbO K n=false:=fun h4=>by
  cases e:zbO K n with
  |true=>exact absurd ⟨h4,e⟩ hbad
  |false=>rfl
 obtain⟨H',sl',hr,hm⟩:=rest_ok h n (fun h4 j u hq=>by
  have hb:=hgood h4;unfold zbO at hb;rw[hq]at hb;simp at hb
  exact hb.2) hb
 refine⟨H',sl',hrun.trans ?_,hm⟩;rw[←hr];unfold restM;by_cases h4:n.op=4
 ·have hb:=hgood h4;unfold zbO at hb;cases hq:zaY n.name 0 K with
  |none=>
   rw[hq]at hb hl9;have hno:zcn n.name=true:=by simpa using hb
   simp only[h4,zaU,decide_true,zac,s_br,if_true,zbC,zaN,Nat.zero_add,h.st.l3,n0,n6,n1,zho hl9,x01,zag (c44 n.name H),zbQ,hno,Bool.not_true,Bool.false_eq_true,if_false,zaq,zaX]
  |some q=>
   rw[hq]at hb hl9;have hno:zcn n.name=true∧q.2=n.w:=by simpa using hb
   simp only[h4,zaU,decide_true,zac,s_br,if_true,zbC,zaN,Nat.zero_add,h.st.l3,n0,n6,n1,zho hl9,x01,zag (c44 n.name H),zbQ,zbc,hno.1,hno.2,Bool.not_true,Bool.false_eq_true,if_false,zaq,zaX,ne_eq,not_true_eq_false,decide_false]
 ·simp only[n0,n1,n6,zbC,zaN,Nat.zero_add,h4,zaU,decide_false,zac,s_br,Bool.false_eq_true,if_false,zaq,zaX]
def dig(d:Nat):UInt8:=UInt8.ofNat (if d<10 then 48+d else 87+d)
def dgt(b x:Nat):List UInt8:=if h:x<b∨b<2 then [dig x] else dgt b (x/b)++[dig (x%b)]
termination_by x
decreasing_by exact Nat.div_lt_self (by omega) (by omega)
abbrev ba(l:List UInt8):ByteArray:=⟨l.toArray⟩
theorem zcv(l:List UInt8):(ba l).size=l.length:=by simp[ba,ByteArray.size]
theorem ziv(l:List UInt8):(ba l).data.toList=l:=by simp[ba]
theorem zjq{s:ByteArray}{l:List UInt8}(h:s.data.toList=l):s=ba l:=by cases s;subst h;simp[ba]
section
variable {α:Type}{P:Program}
theorem s_cut(s:ByteArray)(k1 k2:IntKind)(i j:Nat)(h:i≤j)(hj:j≤s.size)(k:Value→Option α):za2 (.string s) (some (.int k1 (i:Int))) (some (.int k2 (j:Int))) k=k (.string (s.extract i j)):=by
 have:zfB (.string s) (some (.int k1 (i:Int))) (some (.int k2 (j:Int)))=some (.string (s.extract i j)):=by unfold zfB;dsimp only[zcZ];rw[if_pos ⟨by omega,by omega,by omega⟩];simp
 unfold za2;rw[this]
theorem f_at(s:ByteArray)(kd:IntKind)(i:Nat)(b:UInt8)(h:s.data.toList[i]?=some b)(k:Value→Option α):zcl (.string s) (.int kd (i:Int)) k=k (.int .u8 (b.toNat:Int)):=q_at s i b h k
end
def numT(x:Nat):List UInt8:=if x<1000 then dgt 10 x else [48,120]++dgt 16 x
end Go.AM
namespace Go.AM
open List Go
theorem run_at{P:Program}{O:Orc}{ext:FuncId→Option (List Value→Hp→Option (Value×Hp))}{g:FuncId}{fn:Func}{e:List Value→Option Value}(hf:P.funcs[g]?=some fn)(hn:(fn.name == "runtime.NumGoroutine")=false)(hb:fn.body.isNone=true)(hx:O.xt g=some e){xs:List Value}{v:Value}(hv:e xs=some v)(H:Hp) :
  run P O ext g xs H=some (v,H):=by
 have hb:fn.body=none:=by
  cases q:fn.body with
  |none=>rfl
  |some c=>rw[q]at hb;cases hb
 rw[run_eq];unfold zgU;rw[hf];dsimp only;rw[hn];dsimp only;rw[hb];dsimp only;rw[hx];dsimp only;rw[hv]
abbrev nlB:ByteArray:=⟨#[10]⟩
theorem znu{α:Type}(H:Hp)(k:Value→Option α):pLen .str (.string nlB) H k=k (.int .i64 1):=rfl
theorem nl_at{α:Type}(k:Value→Option α):zcl (.string nlB) (.int .i64 0) k=k (.int .u8 10):=f_at nlB .i64 0 10 rfl k
theorem zm3{α:Type}(T:TypeId)(a b:ByteArray)(k:Value→Option α):pBin PP .eql T (.string a) (.string b) k=k (.bool (a.data.toList==b.data.toList)):=by
 have:zn1 .eql a b=some (.bool (a.data.toList==b.data.toList)):=by unfold zn1;simp only[Go.Lib.toList_data]
 unfold pBin binV;dsimp only;rw[this]
theorem c_cntS(s:ByteArray)(H:Hp):RR Bg [.string s,.string nlB] H=some (.int .i64 (Go.Lib.countByte s.data.toList 10:Nat),H):=by
 have h:RR AZ [.string s,.int .u8 10] H=some (.int .i64 (Go.Lib.countByte s.data.toList 10:Nat),H):=
  run_at (e:=zjs) Go.Proofs.Tryz.func157 (by kernel_rfl) (by kernel_rfl) (by kernel_rfl) rfl H
 refine(zhw E0 rfl _ _ H).trans ?_;unfold zeF;simp only[znu,zaU,zac,s_br,nl_at,zag h,show (1:Int)≠0 by decide,decide_false,decide_true,if_false,if_true,Bool.false_eq_true]
theorem c_ixS(s:ByteArray)(H:Hp):RR A3 [.string s,.string nlB] H=some (.int .i64 (Go.Lib.indexByte s.data.toList 10),H):=by
 have h:RR A0 [.string s,.int .u8 10] H=some (.int .i64 (Go.Lib.indexByte s.data.toList 10),H):=
  run_at (e:=zjl) Go.Proofs.Tryz.func184 (by kernel_rfl) (by kernel_rfl) (by kernel_rfl) rfl H
 have h2:RR Be [.string s,.int .u8 10] H=some (.int .i64 (Go.Lib.indexByte s.data.toList 10),H):=by refine(zcx E0 rfl _ _ H).trans ?_;unfold zby;rw[zag h]
 have h3:RR BF [.string s,.string nlB] H=some (.int .i64 (Go.Lib.indexByte s.data.toList 10),H):=by
  refine(zc5 E0 rfl _ _ H).trans ?_;unfold zbV;cases e:(nlB.data.toList==s.data.toList) with
  |true=>
   have e1:s.data.toList=[10]:=(eq_of_beq e).symm;simp only[znu,zaU,zac,s_br,nl_at,zm3,e,zaq,zaX,zex,show (1:Int)≠0 by decide,decide_false,decide_true,if_false,if_true,Bool.false_eq_true,qg0,headD_cons];rw[e1];rfl
  |false=>simp only[znu,zaU,zac,s_br,nl_at,zm3,zaq,zaX,zex,e,zag h2,show (1:Int)≠0 by decide,decide_false,decide_true,if_false,if_true,Bool.false_eq_true,qg0,headD_cons]
 refine(zhv E0 rfl _ _ H).trans ?_;unfold zeE;rw[zag h3]
def cutB(c:UInt8):List UInt8→List (List UInt8)
 |[]=>[[]]
 |b::r=>match b==c with
  |true=>[]::cutB c r
  |false=>match cutB c r with
   |h::t=>(b::h)::t
   |[]=>[[b]]
theorem cutB_hit{c b:UInt8}(h:(b==c)=true)(r:List UInt8):cutB c (b::r)=[]::cutB c r:=by
 conv=>lhs;unfold cutB
 rw[h]
theorem cutB_miss{c b:UInt8}(h:(b==c)=false){r x:List UInt8}{t:List (List UInt8)}(e:cutB c r=x::t):cutB c (b::r)=(b::x)::t:=by
 conv=>lhs;unfold cutB
 rw[h,e]
theorem zf0(c:UInt8):∀l,(cutB c l).length=l.count c+1
 |[]=>rfl
 |b::r=>by
  have ih:=zf0 c r;unfold cutB;rw[count_cons];cases h:b==c with
  |true=>dsimp only;rw[length_cons,ih];simp
  |false=>
   dsimp only;split
   ·rename_i h1 t e;rw[e]at ih;simpa using ih
   ·rename_i e;rw[e]at ih;cases ih
theorem zlC(c:UInt8):∀l,l.count c=0→cutB c l=[l]
 |[],_=>rfl
 |b::r,h=>by
  rw[count_cons]at h;have h1:(b==c)=false:=by
   cases q:b==c with
   |false=>rfl
   |true=>rw[q]at h;simp at h
  rw[h1]at h;unfold cutB;rw[h1];dsimp only;rw[zlC c r (by simpa using h)]
theorem zlB(c:UInt8):∀l,l.count c≠0→∃m:Nat,Go.Lib.indexByte l c=m∧m<l.length∧cutB c l=l.take m::cutB c (l.drop (m+1))∧(l.drop (m+1)).count c+1=l.count c
 |[],h=>by simp at h
 |b::r,h=>by
  rw[count_cons]at h;cases q:b==c with
  |true=>
   refine⟨0,?_,by simp,?_,?_⟩
   ·unfold Go.Lib.indexByte;rw[q];rfl
   ·rw[cutB_hit q];rfl
   ·rw[count_cons,q];simp
  |false=>
   rw[q]at h;obtain⟨m,h1,h2,h3,h4⟩:=zlB c r (by simpa using h);refine⟨m+1,?_,by simp;omega,?_,?_⟩
   ·unfold Go.Lib.indexByte;rw[q,h1];have:((m:Int)==-1)=false:=by rw[beq_eq_false_iff_ne];omega
    simp[this]
   ·rw[cutB_miss q h3];rfl
   ·rw[count_cons,q];simpa using h4
def str(l:List UInt8):Value:=.string (ba l)
theorem ba_take(l:List UInt8)(m:Nat):(ba l).extract 0 m=ba (l.take m):=zjq (by simp[ByteArray.data_extract])
theorem ba_drop(l:List UInt8)(m:Nat):(ba l).extract m l.length=ba (l.drop m):=zjq (by
 simp only[ByteArray.data_extract,Array.toList_extract,extract_eq_take_drop]
 exact take_of_length_le (by simp))
theorem s_upto{α:Type}(l:List UInt8)(kd:IntKind){m:Nat}(hm:m≤l.length)(k:Value→Option α):za2 (str l) none (some (.int kd (m:Int))) k=k (str (l.take m)):=by
 have:zfB (str l) none (some (.int kd (m:Int)))=some (.string ((ba l).extract 0 m)):=by unfold zfB str;dsimp only[zcZ];rw[zcv,if_pos ⟨by omega,by omega,by omega⟩];simp
 unfold za2;rw[this,ba_take];rfl
theorem s_from{α:Type}(l:List UInt8)(kd:IntKind){m:Nat}(hm:m≤l.length)(k:Value→Option α):za2 (str l) (some (.int kd (m:Int))) none k=k (str (l.drop m)):=by
 have:zfB (str l) (some (.int kd (m:Int))) none=some (.string ((ba l).extract m l.length)):=by unfold zfB str;dsimp only[zcZ];rw[zcv,if_pos ⟨by omega,by omega,by omega⟩];simp
 unfold za2;rw[this,ba_drop];rfl
theorem c_ixL(l:List UInt8)(H:Hp):RR A3 [str l,.string nlB] H=some (.int .i64 (Go.Lib.indexByte l 10),H):=by have:=c_ixS (ba l) H;rw[ziv]at this;exact this
theorem w64{a:Int}(h1:-9223372036854775808≤a)(h2:a≤9223372036854775807):IntKind.i64.wrap a=a:=zda (k:=.i64) h1 h2
theorem zjH(A:List Value)(e x:Value){i n:Nat}(hi:A.length=i)(k:Nat):spl (A++repl (k+1) [e]) (i*1) [x]=A++[x]++repl k [e]:=by subst hi;have h:repl (k+1) [e]=e::repl k [e]:=rfl;unfold spl;rw[h,Nat.mul_one];simp
theorem ziM(v:Value)(n:Nat)(hn:n≤2^41):∀(c i:Nat) (done:List (List UInt8)) (rest:List UInt8) (H:Hp),rest.count 10=c→Vec H 1 v n (done.map str++repl (c+1) [str []])→done.length=i→i+c+1=n→rest.length≤2^40 →
  ∃H' front last,zar (za1 RR (.string nlB) (.int .i64 0) v (.int .i64 ((n:Int)-1))) [str rest,.int .i64 (i:Int)] H=some (.exit 0,[str last,.int .i64 ((n:Int)-1)],H') ∧
   cutB 10 rest=front++[last]∧Vec H' 1 v n ((done++front).map str++repl 1 [str []])∧Frm (Id v) H H'
 |0,i,done,rest,H,hc,hv,hd,hi,hl=>by
  refine⟨H,[],rest,?_,by rw[zlC _ _ hc];rfl,by rw[append_nil];exact hv,Frm.refl _ _⟩;have:za1 RR (.string nlB) (.int .i64 0) v (.int .i64 ((n:Int)-1)) [str rest,.int .i64 (i:Int)] H=some (.exit 0,[str rest,.int .i64 (i:Int)],H):=by
   unfold za1;have h1:¬((i:Int)<(n:Int)-1):=by omega
   simp only[qg1,qg0,za5,zac,s_br,h1,decide_false,Bool.false_eq_true,if_false]
  rw[zai,this];have e:((n:Int)-1)=(i:Int):=by omega
  rw[e];rfl
 |c+1,i,done,rest,H,hc,hv,hd,hi,hl=>by
  obtain⟨m,h1,h2,h3,h4⟩:=zlB 10 rest (by omega);obtain⟨y,hy,_,hix⟩:=hv.ix (i:=i) (by omega);have hsz:=hv.size;obtain⟨H1,hst,hv1,hf1,hnx⟩:=hv.set hy (o:=i*1) (m:=1) (x:=str (rest.take m)) rfl (by rw[hsz];omega) rfl;have hspl:=zjH (done.map str) (str []) (str (rest.take m)) (i:=i) (n:=n) (by simpa using hd) (c+1);have hcl:zab (str (rest.take m))=[str (rest.take m)]:=rfl;rw[hcl,hspl]at hv1;have hv2:Vec H1 1 v n ((done++[rest.take m]).map str++repl (c+1) [str []]):=by simpa using hv1
  obtain⟨H',front,last,g1,g2,g3,g4⟩:=ziM v n hn c (i+1) (done++[rest.take m]) (rest.drop (m+1)) H1 (by omega) hv2 (by simp[hd]) (by omega) (by simp;omega);refine⟨H',rest.take m::front,last,?_,by rw[h3,g2];rfl,by simpa using g3,hf1.trans g4 (fun j hj=>.inl hj)⟩;have:za1 RR (.string nlB) (.int .i64 0) v (.int .i64 ((n:Int)-1)) [str rest,.int .i64 (i:Int)] H=some (.next,[str (rest.drop (m+1)),.int .i64 ((i+1:Nat):Int)],H1):=by
   unfold za1;have q1:((i:Int)<(n:Int)-1):=by omega
   have q2:¬((m:Int)<0):=by omega
   simp only[qg1,qg0,za5,zac,s_br,q1,decide_true,if_true,zag (c_ixL rest H),h1,q2,decide_false,Bool.false_eq_true,if_false,zaW];rw[Int.add_zero,w64 (by omega) (by omega),s_upto rest _ (by omega),hix,hst,znu,zaW];have e1:(m:Int)+1=((m+1:Nat):Int):=by omega
   have e2:(i:Int)+1=((i+1:Nat):Int):=by omega
   rw[e1,e2,w64 (by omega) (by omega),w64 (by omega) (by omega),s_from rest _ (by omega)]
  rw[zai,this];exact g1
theorem c_split(l:List UInt8)(hl:l.length≤2^40)(H:Hp):∃v H',RR Bi [str l,.string nlB] H=some (v,H')∧Vec H' 1 v (cutB 10 l).length ((cutB 10 l).map str)∧Frm (fun _=>False) H H'∧∀j,Id v j→H.next≤j:=by
 have hlen:=zf0 10 l;have hcnt:l.count 10≤l.length:=count_le_length;generalize hnn:(cutB 10 l).length=n at *;obtain⟨v,hmk,hv,hid⟩:=Vec.make H (sz:=1) (bytes:=16) (zs:=[str []]) rfl (n:=n) (by omega);obtain⟨H1,front,last,g1,g2,g3,g4⟩:=ziM v n (by omega) (l.count 10) 0 [] l (H.new (.cells (repl n [str []]) true)) rfl (by show Vec _ 1 v n (repl (l.count 10+1) [str []]);rw[←hlen];exact hv) rfl (by omega) hl;rw[show ((0:Nat):Int)=0 from rfl]at g1;have hfl:front.length+1=n:=by rw[←hnn,g2];simp
 obtain⟨y,hy,_,hix⟩:=g3.ix (i:=n-1) (by omega);have hsz:=g3.size;obtain⟨H2,hst,hv2,hf2,hnx⟩:=g3.set hy (o:=(n-1)*1) (m:=1) (x:=str last) rfl (by rw[hsz];omega) rfl;have hspl:=zjH (([]++front).map str) (str []) (str last) (i:=n-1) (n:=n) (by simp;omega) 0;have hcl:zab (str last)=[str last]:=rfl;rw[hcl,hspl]at hv2;have hv3:Vec H2 1 v n ((cutB 10 l).map str):=by rw[g2];simpa[repl] using hv2
 obtain⟨v',hcut,hv4,hid4⟩:=hv3.cut (by rw[all_map];exact all_eq_true.2 fun x _=>rfl) (m:=n) (Nat.le_refl _);have hv5:Vec H2 1 v' n ((cutB 10 l).map str):=by have e:((cutB 10 l).map str).take (n*1)=(cutB 10 l).map str:=take_of_length_le (by rw[length_map,hnn];omega);rw[e]at hv4;exact hv4
 have hgen:RR Bj [str l,.string nlB,.int .i64 0,.int .i64 (-1)] H=some (v',H2):=by
  refine(zfI E0 rfl _ _ _ _ H).trans ?_;rw[zfY];have hc:RR Bg [str l,.string nlB] H=some (.int .i64 (l.count 10:Nat),H):=by have:=c_cntS (ba l) H;rw[ziv]at this;exact this
  have q1:¬((-1:Int)=0):=by decide
  have q2:(nlB.data.toList==(⟨#[]⟩:ByteArray).data.toList)=false:=by decide
  have q3:((-1:Int)<0):=by decide
  have e1:((l.count 10:Nat):Int)+1=(n:Int):=by omega
  have e2:∀{α:Type} (k:Value→Option α),pLen .str (str l) H k=k (.int .i64 (l.length:Int)):=fun k=>by show k (.int .i64 ((ba l).size:Int))=_;rw[zcv]
  have e3:∀(a b:Int) (k:Value→Option (Value×Hp)),pMM false [.int .i64 a,.int .i64 b] k=k (.int .i64 (if b<a then b else a)):=fun a b k=>rfl;have hmk':∀(α:Type) (k:Value→Hp→Option α),zaR 1 16 [Value.string ⟨#[]⟩] (.int .i64 (n:Int)) (.int .i64 (n:Int)) H k=k v (H.new (.cells (repl n [str []]) true)):=hmk;have q4:¬(((l.length:Int)+1)<(n:Int)):=by omega
  simp only[zaU,zac,s_br,q1,zm3,q2,za5,q3,decide_true,decide_false,if_true,if_false,Bool.false_eq_true,zag hc,zaW,e1,zaq,zaX];rw[w64 (by omega) (by omega)];simp only[qg0];rw[e2,zaW,w64 (by omega) (by omega),e3,if_neg q4,hmk',zdI,w64 (by omega) (by omega),g1,zaq,za4,zaB];simp only[qg1,qg0];have e5:(n:Int)-1=((n-1:Nat):Int):=by omega
  rw[e5,hix,hst,zaW];have e6:((n-1:Nat):Int)+1=(n:Int):=by omega
  rw[e6,w64 (by omega) (by omega),hcut]
 refine⟨v',H2,?_,hv5,?_,fun j hj=>?_⟩
 ·refine(zhu E0 rfl _ _ H).trans ?_;unfold zeD;rw[zag hgen]
 ·refine(zct H _ (fun _=>False)).trans (g4.trans hf2 fun j hj=>.inl hj) fun j hj=>.inr ?_;rw[hid j hj];exact Nat.le_refl _
 ·rw[hid j (hid4 j hj)];exact Nat.le_refl _
theorem zlA(n b0 b1 b2 b3:Nat)(hn:0<n):(b0<128∧Go.Lib.decodeN n b0 b1 b2 b3=(b0,1))∨(128≤b0∧Go.Lib.decodeN n b0 b1 b2 b3=(65533,1)) ∨
  (128≤b0∧1<n∧128≤b1∧(Go.Lib.decodeN n b0 b1 b2 b3).2=2∧128≤(Go.Lib.decodeN n b0 b1 b2 b3).1) ∨
  (128≤b0∧2<n∧128≤b1∧128≤b2∧(Go.Lib.decodeN n b0 b1 b2 b3).2=3∧128≤(Go.Lib.decodeN n b0 b1 b2 b3).1) ∨
  (128≤b0∧3<n∧128≤b1∧128≤b2∧128≤b3∧(Go.Lib.decodeN n b0 b1 b2 b3).2=4∧128≤(Go.Lib.decodeN n b0 b1 b2 b3).1):=by
 unfold Go.Lib.decodeN
 repeat' split
 all_goals first
  |(left;exact⟨by assumption,rfl⟩)
  |(right;left;exact⟨by omega,rfl⟩)
  |(right;right;left;exact⟨by omega,by omega,by omega,rfl,by dsimp only;omega⟩)
  |(right;right;right;left;exact⟨by omega,by omega,by omega,by omega,rfl,by dsimp only;omega⟩)
  |(right;right;right;right;exact⟨by omega,by omega,by omega,by omega,by omega,rfl,by dsimp only;omega⟩)
theorem ba_get (l : List UInt8) (j : Nat) : (ba l).get! j = l.getD j 0 := by
  show (ba l).data[j]! = _
  rw [getD_eq_getElem?_getD]
  by_cases h : j < l.length
  · simp [getElem!_pos, h]
  · rw [getElem!_neg _ _ (by simpa using h), List.getElem?_eq_none (by omega)]
    rfl
theorem dec_sp(l:List UInt8)(i:Nat)(hi:i<l.length):1≤(Utf8.decode (ba l) i).2∧i+(Utf8.decode (ba l) i).2≤l.length ∧
  (((Utf8.decode (ba l) i).1=32∧(Utf8.decode (ba l) i).2=1∧l.getD i 0=32)∨((Utf8.decode (ba l) i).1≠32∧∀j,i≤j→j<i+(Utf8.decode (ba l) i).2→l.getD j 0≠32)):=by
 have no:∀j,128≤(l.getD j 0).toNat→l.getD j 0≠32:=fun j h e=>by rw[e]at h;exact absurd h (by decide)
 rw[Go.Lib.decode_at,zcv];simp only[ba_get];have hs:=zlA (l.length-i) (l.getD i 0).toNat (l.getD (i+1) 0).toNat (l.getD (i+2) 0).toNat (l.getD (i+3) 0).toNat (by omega);generalize Go.Lib.decodeN (l.length-i) (l.getD i 0).toNat (l.getD (i+1) 0).toNat (l.getD (i+2) 0).toNat (l.getD (i+3) 0).toNat=q at hs ⊢;obtain⟨r,w⟩:=q;rcases hs with⟨h1,h2⟩|⟨h1,h2⟩|⟨h1,h2,h3,h4,h5⟩|⟨h1,h2,h3,h3',h4,h5⟩|⟨h1,h2,h3,h3',h3'',h4,h5⟩
 ·cases h2;refine⟨Nat.le_refl _,by show i+1≤_;omega,?_⟩;by_cases e:l.getD i 0=32
  ·left;rw[e];exact⟨rfl,rfl,rfl⟩
  ·right;refine⟨fun q=>e (UInt8.toNat_inj.1 q),fun j h3 h4=>?_⟩;have:j=i:=by have h4:j<i+1:=h4;omega
   rw[this];exact e
 ·cases h2;refine⟨Nat.le_refl _,by show i+1≤_;omega,.inr ⟨by decide,fun j h3 h4=>?_⟩⟩;have:j=i:=by have h4:j<i+1:=h4;omega
  rw[this];exact no i h1
 ·dsimp only at h4 h5 ⊢;subst h4;refine⟨by omega,by omega,.inr ⟨by omega,fun j h6 h7=>?_⟩⟩;have:j=i∨j=i+1:=by omega
  rcases this with rfl|rfl
  ·exact no _ h1
  ·exact no _ h3
 ·dsimp only at h4 h5 ⊢;subst h4;refine⟨by omega,by omega,.inr ⟨by omega,fun j h6 h7=>?_⟩⟩;have:j=i∨j=i+1∨j=i+2:=by omega
  rcases this with rfl|rfl|rfl
  ·exact no _ h1
  ·exact no _ h3
  ·exact no _ h3'
 ·dsimp only at h4 h5 ⊢;subst h4;refine⟨by omega,by omega,.inr ⟨by omega,fun j h6 h7=>?_⟩⟩;have:j=i∨j=i+1∨j=i+2∨j=i+3:=by omega
  rcases this with rfl|rfl|rfl|rfl
  ·exact no _ h1
  ·exact no _ h3
  ·exact no _ h3'
  ·exact no _ h3''
theorem c_space(r:Int)(H:Hp):RR Ay [.int .i32 r] H=some (.bool (decide (r=32)),H):=by refine(zjS E0 rfl _ H).trans ?_;unfold zfP;rw[zaU]
end Go.AM
