/- Part of the proof of EvalPutMeansUptoCardSaid: see the last file.  -/
import Derived.KernelRfl
import Derived.Test.YtcbmccpkhagckaaGreatDoorProg
import Derived.Shelf.Strings.Builder1
import Derived.Shelf.Small.Wraps
import Derived.Shelf.Strings.BuilderF
import Derived.Shelf.Strings.BuilderK
import Derived.Shelf.Utf8.RuneCount
import Derived.Shelf.Strconv.Itoa0
import Derived.Shelf.Strconv.Itoa1
import Derived.Shelf.LaysM
import Derived.Shelf.Strconv.Itoa2
import Derived.Shelf.Strconv.Itoa3
import Derived.Shelf.Strconv.Clone
import Derived.Shelf.Strconv.SyntaxError
import Derived.Shelf.LaysC
import Derived.Shelf.Strconv.ToError
import Derived.Shelf.Strconv.Lower
import Derived.Shelf.Strconv.ParseUint10
import Derived.Shelf.Strconv.ParseUint10Empty
import Derived.Shelf.Strconv.ParseUint10Any
import Derived.Shelf.Strconv.RangeError
import Derived.Shelf.Strconv.ToErrorRange
import Derived.Shelf.Strconv.ParseUintEmpty
import Derived.Shelf.Strconv.ParseUint10b64
import Derived.Shelf.Strconv.ParseUint10b32
import Derived.Shelf.Strconv.ParseUint10b16
import Derived.Shelf.Strconv.ParseUint10b8
import Derived.Shelf.Strconv.ParseUint10At
import Derived.Shelf.Strings.Search1
import Derived.Shelf.Strings.Search2
import Derived.Shelf.Strings.Search3
import Derived.Shelf.Strings.Count
import Derived.Shelf.Strings.Shaped
import Derived.Shelf.Strings.Prefix
import Derived.Shelf.Strings.Split
import Derived.Shelf.Strings.Fields
import Derived.Shelf.Strings.SplitShaped
import Derived.Shelf.Unicode.Latin
import Derived.Shelf.Unicode.Decode
import Derived.Shelf.Strings.RuneCount
import Derived.Shelf.Strings.Explode
import Derived.Shelf.Unicode.DecodeSlow
import Derived.Shelf.Unicode.DecodeAny
import Derived.Shelf.Unicode.Is16White
import Derived.Shelf.Unicode.IsSpaceAny
import Derived.Shelf.Unicode.Is16WhiteD
import Derived.Shelf.Unicode.IsSpaceAnyD
import Derived.Shelf.Unicode.Is16Any
import Derived.Shelf.Unicode.Is32Any
import Derived.Shelf.Unicode.ExclAny
import Derived.Shelf.Strings.BuilderCap
import Derived.Laws.Bits64
import Derived.Laws.RangeString
import Derived.Laws.RangeAny
import Derived.Test.YtcbmccpkhagckaaGreatDoorT0
import Derived.Test.YtcbmccpkhagckaaGreatDoorT1
set_option linter.unusedSimpArgs false
set_option linter.unusedVariables false
set_option linter.unusedSectionVars false
set_option maxRecDepth 100000
namespace Go.AM
open Go Go.AM
noncomputable abbrev PP:Program:=Go.Proofs.Tryz.prog
abbrev ET:=FuncId→Option (List Value→Hp→Option (Value×Hp))
abbrev B4:Nat:=0
abbrev AD:Nat:=1
abbrev BW:Nat:=2
abbrev AE:Nat:=3
abbrev BS:Nat:=4
abbrev BX:Nat:=5
abbrev BY:Nat:=6
abbrev Aw:Nat:=7
abbrev Ax:Nat:=8
abbrev BZ:Nat:=9
abbrev AR:Nat:=10
abbrev Bs:FuncId:=84
abbrev Bu:FuncId:=85
abbrev Bv:FuncId:=82
abbrev Bw:FuncId:=87
abbrev AS:FuncId:=55
abbrev AL:FuncId:=102
abbrev AT:FuncId:=117
abbrev By:FuncId:=143
abbrev Aq:FuncId:=114
abbrev AN:FuncId:=115
abbrev Bz:FuncId:=86
abbrev Ae:FuncId:=80
abbrev BA:FuncId:=83
abbrev A6:FuncId:=118
abbrev A7:FuncId:=116
abbrev BB:FuncId:=8
abbrev A8:FuncId:=21
abbrev BC:FuncId:=12
abbrev A9:FuncId:=19
abbrev Aj:FuncId:=15
abbrev AU:FuncId:=30
abbrev AO:FuncId:=16
abbrev BD:FuncId:=96
abbrev Ay:FuncId:=29
abbrev AF:FuncId:=53
abbrev AV:FuncId:=24
abbrev Ba:FuncId:=18
abbrev Au:FuncId:=13
abbrev Bb:FuncId:=20
abbrev Bc:FuncId:=51
abbrev BE:FuncId:=40
abbrev BF:FuncId:=54
abbrev Bd:FuncId:=81
abbrev BG:FuncId:=47
abbrev AW:FuncId:=52
abbrev Be:FuncId:=39
abbrev AX:FuncId:=157
abbrev B5:FuncId:=173
abbrev AY:FuncId:=184
abbrev B6:FuncId:=174
abbrev B0:FuncId:=172
abbrev B7:FuncId:=126
abbrev B8:FuncId:=127
abbrev B9:FuncId:=131
abbrev AZ:FuncId:=160
abbrev As:FuncId:=176
abbrev B1:FuncId:=177
abbrev Bf:FuncId:=159
abbrev BH:FuncId:=175
abbrev BJ:FuncId:=158
abbrev Bg:FuncId:=171
abbrev Bh:FuncId:=138
abbrev A0:FuncId:=161
abbrev B2:FuncId:=64
abbrev B3:FuncId:=97
abbrev Bi:FuncId:=135
abbrev BK:FuncId:=137
abbrev Bj:FuncId:=99
abbrev AG:FuncId:=67
abbrev A1:FuncId:=136
abbrev Bk:FuncId:=65
abbrev Ca:FuncId:=134
abbrev Bl:FuncId:=101
abbrev AP:FuncId:=35
abbrev Bm:FuncId:=66
abbrev Az:FuncId:=68
abbrev Bn:FuncId:=26
abbrev Ar:FuncId:=48
abbrev Ak:FuncId:=31
abbrev At:FuncId:=38
abbrev Bo:FuncId:=27
abbrev AH:FuncId:=50
abbrev BL:FuncId:=94
abbrev Al:FuncId:=49
abbrev BM:FuncId:=95
abbrev BN:FuncId:=60
abbrev Bp:FuncId:=103
abbrev Av:FuncId:=62
abbrev Ap:FuncId:=69
abbrev AI:FuncId:=72
abbrev An:FuncId:=71
abbrev Bq:FuncId:=70
abbrev BO:FuncId:=93
abbrev Cb:FuncId:=155
abbrev Cc:TypeId:=235
abbrev Cd:TypeId:=196
abbrev Br:TypeId:=106
abbrev A2:TypeId:=167
abbrev Ce:TypeId:=266
abbrev Ai:TypeId:=30
abbrev Am:TypeId:=71
abbrev A3:TypeId:=48
abbrev AA:TypeId:=114
abbrev BP:TypeId:=269
abbrev AJ:TypeId:=165
abbrev Aa:TypeId:=3
abbrev Af:TypeId:=21
abbrev BQ:TypeId:=2
abbrev BT:TypeId:=20
abbrev Cf:TypeId:=169
abbrev AB:TypeId:=267
abbrev BR:TypeId:=251
abbrev Ao:TypeId:=24
abbrev Cg:TypeId:=210
abbrev AK:TypeId:=22
abbrev A4:TypeId:=29
abbrev Ag:TypeId:=249
abbrev Ac:TypeId:=9
abbrev AQ:TypeId:=121
abbrev A5:TypeId:=175
abbrev AC:TypeId:=109
abbrev Ad:TypeId:=131
abbrev BU:TypeId:=148
abbrev BV:TypeId:=134
abbrev Ab:TypeId:=38
abbrev Ah:TypeId:=5
abbrev Ch:TypeId:=243
abbrev Ci:TypeId:=240
def orc:Orc:={ mkOrc [(8,[20]),(13,[15,17]),(14,[12]),(20,[11]),(21,[7]),(23,[10]),(24,[14]),(25,[13,14]),(28,[10]),(29,[17,19]),(31,[4]),(32,[16]),(34,[14]),(36,[18]),(37,[6]),(38,[14]),(39,[6,7,10]),(40,[6]),(43,[12,14]),(45,[11,12,13,14]),(48,[3]),(53,[2]),(55,[15]),(56,[1]),(66,[4]),(67,[11,14]),(76,[4,6]),(77,[3]),(78,[3]),(92,[6]),(93,[1]),(94,[3]),(95,[3]),(96,[5]),(102,[18]),(105,[3]),(110,[2]),(111,[3]),(112,[3]),(155,[4]),(169,[10]),(170,[9])]
 [(3,[(10,some ([],[])),(4,some ([],[]))]),(4,[(13,some ([],[]))]),(5,[(9,some ([],[])),(4,some ([],[]))]),(6,[(16,some ([8],[])),(13,some ([],[])),(5,some ([],[]))]),(8,[(37,some ([],[])),(32,some ([],[])),(20,some ([],[]))]),(10,[(10,some ([],[]))]),(11,[(5,some ([],[]))]),(12,[(4,some ([],[]))]),(21,[(9,some ([],[7]))]),(28,[(5,some ([22],[])),(4,some ([15],[])),(10,some ([],[10]))]),(34,[(21,some ([],[]))]),(35,[(17,some ([],[])),(7,some ([8],[]))]),(36,[(18,some ([71],[])),(14,some ([14],[])),(11,some ([],[]))]),(48,[(26,some ([],[])),(21,some ([],[])),(5,some ([],[])),(3,some ([],[]))]),(52,[(15,some ([],[]))]),(55,[(7,some ([5],[])),(3,some ([],[]))]),(62,[(6,some ([4],[]))]),(67,[(14,some ([5],[]))]),(72,[(22,some ([69],[])),(31,some ([],[])),(12,some ([],[]))]),(76,[(21,some ([],[4])),(11,some ([],[4])),(4,some ([],[4]))]),(77,[(4,some ([13],[]))]),(78,[(23,some ([],[])),(18,some ([],[])),(7,some ([26],[])),(5,some ([17],[]))]),(82,[(3,some ([],[]))]),(84,[(5,some ([],[])),(3,some ([],[]))]),(86,[(3,some ([],[]))]),(87,[(5,some ([],[])),(3,some ([],[]))]),(92,[(26,some ([111],[])),(24,some ([94],[])),(17,some ([66],[]))]),(94,[(8,some ([27],[]))]),(95,[(12,some ([60],[])),(4,some ([13],[]))]),(96,[(9,some ([],[])),(5,some ([],[]))]),(101,[(7,some ([3],[]))]),(102,[(5,some ([4],[]))]),(107,[(6,some ([4,5],[]))]),(109,[(2,some ([3],[]))]),(110,[(3,some ([],[]))]),(111,[(12,some ([67],[]))]),(112,[(3,some ([8],[]))]),(113,[(3,some ([],[]))]),(120,[(3,some ([],[]))]),(122,[(5,some ([],[])),(3,some ([],[]))]),(124,[(3,some ([],[]))]),(125,[(5,some ([],[])),(3,some ([],[]))]),(131,[(8,some ([6],[])),(4,some ([],[]))]),(134,[(4,some ([1],[]))]),(139,[(3,some ([6],[])),(8,some ([5],[]))]),(146,[(19,some ([11],[]))]),(152,[(20,some ([4,12],[]))]),(153,[(7,some ([1],[])),(3,some ([],[]))]),(154,[(5,some ([],[]))]),(158,[(26,some ([107],[])),(23,some ([],[])),(21,some ([8],[])),(3,some ([16],[])),(10,some ([],[]))]),(160,[(41,some ([106],[])),(46,some ([12,16],[])),(32,some ([10],[])),(25,some ([2],[])),(16,some ([52],[])),(13,some ([40],[])),(7,some ([25],[])),(21,some ([0,1],[]))]),(164,[(4,some ([0,2],[]))]),(168,[(2,some ([17],[]))]),(170,[(21,some ([],[])),(16,some ([],[]))]),(174,[(10,some ([],[]))]),(177,[(14,some ([3],[])),(10,some ([3,4,5],[])),(5,some ([0],[]))])]
 [(3,[(11,[17],[])]),(4,[(24,[17,19],[]),(21,[17,18],[]),(14,[14],[])]),(5,[(10,[14],[])]),(6,[(8,[5,6,7],[])]),(7,[(19,[17],[]),(13,[16],[])]),(8,[(41,[30],[]),(38,[29],[]),(12,[12,13,14,15,16],[])]),(9,[(20,[17],[]),(11,[12,13],[])]),(13,[(26,[19,113],[]),(12,[49],[])]),(14,[(22,[16,17],[]),(10,[11],[])]),(16,[(4,[5],[])]),(17,[(4,[5],[])]),(20,[(8,[8,26],[])]),(21,[(3,[5,6],[])]),(22,[(6,[5,6],[]),(3,[3],[])]),(23,[(8,[8,9],[])]),(24,[(14,[57],[]),(9,[38],[])]),(25,[(16,[15,16,17],[]),(9,[12],[])]),(29,[(21,[72],[]),(16,[58],[])]),(30,[(4,[5],[])]),(32,[(24,[17,18,69],[]),(17,[56],[]),(10,[41],[])]),(34,[(37,[128],[]),(22,[86],[]),(9,[32],[])]),(35,[(19,[],[]),(11,[6,10,42],[])]),(36,[(8,[10,11,12,13],[])]),(37,[(4,[5],[])]),(38,[(16,[8,10],[]),(11,[8,10,36],[]),(2,[18],[])]),(39,[(11,[41],[]),(3,[16],[])]),(41,[(2,[5],[])]),(42,[(9,[5],[]),(3,[3,4],[])]),(43,[(18,[13,15],[]),(12,[8,10],[]),(9,[8,9],[]),(2,[6],[])]),(44,[(2,[5],[])]),(45,[(8,[15],[13,14])]),(48,[(6,[35],[])]),(51,[(3,[11],[])]),(52,[(32,[26,130],[]),(17,[21,79],[]),(6,[45],[])]),(55,[(4,[],[15])]),(67,[(16,[49],[]),(4,[5,6],[14])]),(72,[(13,[44],[])]),(74,[(4,[3,4,5],[])]),(75,[(3,[6,7],[])]),(76,[(14,[9,10],[4,6]),(5,[7],[6])]),(89,[(7,[4],[]),(2,[3],[])]),(99,[(27,[12],[]),(21,[10,11,12],[]),(18,[12],[]),(5,[3,4,5,6],[])]),(101,[(11,[0,10],[])]),(102,[(6,[],[18])]),(103,[(2,[2,7],[])]),(107,[(9,[5,6],[])]),(113,[(4,[3],[])]),(134,[(6,[0,7],[])]),(135,[(6,[0,5],[])]),(140,[(2,[3],[])]),(146,[(3,[9,10],[])]),(152,[(1,[1,4],[])]),(153,[(11,[1,13],[]),(18,[1,13],[])]),(155,[(2,[2],[4])]),(158,[(15,[8,10],[])]),(160,[(36,[12,13,101],[])]),(168,[(14,[7,8],[]),(3,[20],[])]),(169,[(14,[7,8],[]),(3,[16],[])]),(174,[(11,[8,10],[]),(5,[8,9],[])]),(177,[(10,[3,4],[])]),(185,[(8,[6,7,8],[]),(3,[4,5],[])])] with xt:=look none [(184,some zjV),(157,some zj4)],gt:=fun t=>List.elem t [5,121],pan:=fun f=>List.elem f [35,69,70,71,72,103],dfr:=fun f=>List.elem f [35] }
noncomputable def zb7(R:zaf)(a b c:Value)(d:Hp):Option (Value×Hp):=zd0 PP orc R BB Go.Proofs.Tryz.f8 [a,b,c] d
noncomputable def zdA(R:zaf)(m:Hp):Option (Value×Hp):=zed R AP [(.string ⟨#[49,32,118,97,114,32,120,32,56,10,50,32,118,97,114,32,121,32,56,10,51,32,97,100,100,32,49,32,50,10,52,32,101,113,32,51,32,49,10,114,111,111,116,115,32,51,32,52,10]⟩),(.int .i64 0)] m fun c n=>zac c 0 fun d=>zac c 1 fun e=>zac c 2 fun am=>zac c 3 fun o=>zaw (zae R Aj [o] n fun p a=>pBin PP .neq Aa p (.int .i64 0) fun q=>zaa q fun r=>br r (some (.ret,[(.bool false)],a)) (pBin PP .eql Ao d (.pointer none) fun s=>zaa s fun t=>br t (some (.ret,[(.bool false)],a)) (pLen .sl e a fun u=>pBin PP .neq Aa u (.int .i64 2) fun v=>zaa v fun w=>br w (some (.ret,[(.bool false)],a)) (some (.next,[],a))))) fun x y g=>zaG x (zaE PP A3 [(0,(.string ⟨#[120]⟩)),(1,(.int .i64 8)),(2,(.int .u64 200))] fun z=>zaE PP A3 [(0,(.string ⟨#[121]⟩)),(1,(.int .i64 8)),(2,(.int .u64 100))] fun A=>zal 3 [.string ⟨#[]⟩,.int .i64 0,.int .u64 0] 2 [(0,z),(1,A)] g fun B C=>zae R Au [d,e,B] C fun h i=>zac h 0 fun D=>zac h 1 fun E=>pIdx 1 e (.int .i64 1) fun F=>zak 1 false i F fun G=>zae R AV [d,G] i fun f j=>zac f 0 fun H=>zac f 1 fun I=>zac f 2 fun J=>zac f 3 fun K=>pIdx 1 e (.int .i64 0) fun L=>zak 1 false j L fun M=>zaE PP A3 [(0,(.string ⟨#[120]⟩)),(1,(.int .i64 4)),(2,(.int .u64 1))] fun N=>zal 3 [.string ⟨#[]⟩,.int .i64 0,.int .u64 0] 1 [(0,N)] j fun O P=>zae R Ba [d,M,O] P fun k Q=>zac k 0 fun ao=>zac k 1 fun S=>zae R Aj [E] Q fun T U=>zae R Aj [K] U fun V l=>pBin PP .add Aa T V fun W=>pBin PP .eql Aa W (.int .i64 0) fun X=>zaa X fun Y=>br Y (zal 1 [.int .u64 0] 2 [(0,(.int .u64 44)),(1,(.int .u64 0))] l fun Z aa=>zae R AO [D,Z] aa fun ab b=>zaa ab fun ac=>br ac (pBin PP .eql Aa H (.int .i64 4) fun ad=>zaa ad fun ae=>br ae (pBin PP .eql Ab I (.int .u64 5) fun af=>zaa af fun ag=>br ag (pBin PP .eql Aa J (.int .i64 3) fun ah=>zaa ah fun ai=>br ai (zae R Aj [S] b fun aj ak=>pBin PP .eql Aa aj (.int .i64 71) fun al=>some (al,ak)) (some ((.bool false),b))) (some ((.bool false),b))) (some ((.bool false),b))) (some ((.bool false),b))) (some ((.bool false),l))) (fun ap=>none) (some ((y.headD undef),g))
noncomputable def zgd(R:zaf)(a b c:Value)(d:Hp):Option (Value×Hp):=zd0 PP orc R Au Go.Proofs.Tryz.f13 [a,b,c] d
noncomputable def zgM(R:zaf)(a:Value)(b:Hp):Option (Value×Hp):=some (a,b)
noncomputable def zcm(R:zaf)(a b:Value)(c:Hp):Option (Value×Hp):=zd0 PP orc R AO Go.Proofs.Tryz.f16 [a,b] c
noncomputable def zg7(R:zaf)(d e f:Value)(g:Hp):Option (Value×Hp):=zal 1 [.int .i64 0] 1 [(0,e)] g fun h i=>zae R Au [d,h,f] i fun b a=>zac b 0 fun j=>zac b 1 fun c=>pBin PP .neq Ai c (.int .i64 0) fun k=>zaa k fun l=>br l (some ((.tuple #[(.int .u64 0),c]),a)) (pIdx 1 j (.int .i64 0) fun m=>zak 1 false a m fun n=>some ((.tuple #[n,(.int .i64 0)]),a))
noncomputable def zdz(R:zaf)(e:Value)(f:Hp):Option (Value×Hp):=zed R AP [e,(.int .i64 0)] f fun a g=>zac a 0 fun b=>zac a 1 fun c=>zac a 2 fun m=>zac a 3 fun h=>zae R Aj [h] g fun i d=>pBin PP .eql Aa i (.int .i64 0) fun j=>zaa j fun k=>br k (pBin PP .neq Ao b (.pointer none) fun l=>some ((.tuple #[b,c,l]),d)) (some ((.tuple #[b,c,(.bool false)]),d))
noncomputable def zix(R:zaf)(a b:Value)(c:Hp):Option (Value×Hp):=zd0 PP orc R Bb Go.Proofs.Tryz.f20 [a,b] c
noncomputable def zdf(R:zaf)(a b:Value)(c:Hp):Option (Value×Hp):=zd0 PP orc R A8 Go.Proofs.Tryz.f21 [a,b] c
noncomputable def ziy(R:zaf)(a b:Value)(c:Hp):Option (Value×Hp):=zd0 PP orc R AV Go.Proofs.Tryz.f24 [a,b] c
noncomputable def zjL(R:zaf)(a:Value)(b:Hp):Option (Value×Hp):=pBin PP .lss Aa a (.int .i64 0) fun c=>zaa c fun d=>br d (some ((.tuple #[(.pointer none),(.int .i64 1)]),b)) (zbD b fun e f=>zbD f fun g h=>zaE PP AC [(0,a),(2,e),(3,g)] fun i=>zcX (zab i) h fun j k=>some ((.tuple #[j,(.int .i64 0)]),k))
noncomputable def zeD(R:zaf)(b c d:Value)(e:Hp):Option (Value×Hp):=zaE PP Am [(0,(.int .i64 4)),(1,d),(6,c)] fun f=>zae R Ar [b,f] e fun a g=>zac a 0 fun h=>zac a 1 fun i=>some ((.tuple #[h,i]),g)
noncomputable def zjN(R:zaf)(a b c d:Value)(e:Hp):Option (Value×Hp):=zd0 PP orc R Ay Go.Proofs.Tryz.f29 [a,b,c,d] e
noncomputable def zcx(R:zaf)(a b:Value)(c:Hp):Option (Value×Hp):=zd0 PP orc R AU Go.Proofs.Tryz.f30 [a,b] c
noncomputable def zef(R:zaf)(b c:Value)(d:Hp):Option (Value×Hp):=zae R AH [b,c] d fun e a=>pUn .not e fun f=>zaa f fun g=>br g (zaE PP Am [] fun h=>zaN 7 [.int .i64 0,.int .i64 0,.int .i64 0,.int .i64 0,.int .i64 0,.int .u64 0,.string ⟨#[]⟩] 0 h fun i=>zaj 7 true i 0 fun j=>some ((.tuple #[j,(.int .i64 70)]),a)) (pNil b (zav 1 b fun k=>zak 1 false a k fun l=>pBin PP .sub Aa c (.int .i64 1) fun m=>pIdx 7 l m fun n=>zak 7 true a n fun o=>zaN 7 [.int .i64 0,.int .i64 0,.int .i64 0,.int .i64 0,.int .i64 0,.int .u64 0,.string ⟨#[]⟩] 0 o fun p=>zaj 7 true p 0 fun q=>some ((.tuple #[q,(.int .i64 0)]),a)))
noncomputable def zit(R:zaf)(a b:Value)(c:Hp):Option (Value×Hp):=zd0 PP orc R AP Go.Proofs.Tryz.f35 [a,b] c
noncomputable def zdP(R:zaf)(a b:Value)(c:Hp):Option (Value×Hp):=zd0 PP orc R At Go.Proofs.Tryz.f38 [a,b] c
noncomputable def ziu(R:zaf)(a:Value)(b:Hp):Option (Value×Hp):=zd0 PP orc R Be Go.Proofs.Tryz.f39 [a] b
noncomputable def ziw(R:zaf)(d c e m f n:Value)(b:Hp):Option (Value×Hp):=zaj 1 false (zab d) 0 fun a=>pBin PP .eql Aa a (.int .i64 1) fun o=>zaa o fun p=>br p (some ((.int .u64 1),b)) (pBin PP .eql Aa a (.int .i64 2) fun q=>zaa q fun r=>br r (some ((.int .u64 0),b)) (pBin PP .eql Aa a (.int .i64 3) fun s=>zaa s fun t=>br t (zaj 1 false (zab d) 5 fun u=>some (u,b)) (pBin PP .eql Aa a (.int .i64 5) fun v=>zaa v fun w=>br w (pBin PP .sub Ab (.int .u64 1) c fun x=>some (x,b)) (pBin PP .eql Aa a (.int .i64 6) fun y=>zaa y fun z=>br z (pBin PP .and Ab c e fun A=>some (A,b)) (pBin PP .eql Aa a (.int .i64 7) fun B=>zaa B fun C=>br C (pBin PP .or Ab c e fun D=>some (D,b)) (pBin PP .eql Aa a (.int .i64 8) fun E=>zaa E fun F=>br F (pBin PP .xor Ab c e fun G=>some (G,b)) (pBin PP .eql Aa a (.int .i64 9) fun H=>zaa H fun I=>br I (pBin PP .eql Ab c e fun J=>zae R Bd [J] b fun K L=>some (K,L)) (pBin PP .leq Aa a (.int .i64 13) fun M=>zaa M fun N=>br N (zae R Bv [a,f,c,e] b fun g O=>zac g 0 fun P=>zac g 1 fun az=>zae R Bd [P] O fun Q S=>some (Q,S)) (pBin PP .eql Aa a (.int .i64 14) fun T=>zaa T fun U=>br U (pBin PP .eql Ab c (.int .u64 1) fun V=>zaa V fun W=>br W (some (e,b)) (some (m,b))) (pBin PP .leq Aa a (.int .i64 16) fun X=>zaa X fun Y=>br Y (zaj 1 false (zab d) 1 fun Z=>zae R BA [a,Z,c] b fun h aa=>zac h 0 fun ab=>zac h 1 fun ba=>some (ab,aa)) (pBin PP .leq Aa a (.int .i64 29) fun ac=>zaa ac fun ad=>br ad (zaj 1 false (zab d) 1 fun ae=>zae R Bs [a,ae,c,e] b fun i af=>zac i 0 fun ag=>zac i 1 fun bb=>some (ag,af)) (pBin PP .eql Aa a (.int .i64 30) fun ah=>zaa ah fun ai=>br ai (zae R Bu [f,c,n,e] b fun j aj=>zac j 0 fun ak=>zac j 1 fun bc=>some (ak,aj)) (pBin PP .eql Aa a (.int .i64 31) fun al=>zaa al fun am=>br am (zaj 1 false (zab d) 5 fun ao=>zaq .i64 ao fun ap=>zaj 1 false (zab d) 1 fun aq=>zae R Bz [f,c,ap,aq] b fun k ar=>zac k 0 fun au=>zac k 1 fun bd=>some (au,ar)) (zaj 1 false (zab d) 0 fun av=>zaj 1 false (zab d) 1 fun aw=>zae R Bw [av,f,c,aw] b fun l ax=>zac l 0 fun ay=>zac l 1 fun be=>some (ay,ax)))))))))))))))
noncomputable def ziv(R:zaf)(a b:Value)(c:Hp):Option (Value×Hp):=pBin PP .add Ab a b fun d=>pBin PP .lss Ab d a fun e=>zaa e fun f=>br f (some ((.int .u64 18446744073709551615),c)) (pBin PP .add Ab a b fun g=>some (g,c))
noncomputable def zeg(R:zaf)(a b:Value)(j:Hp):Option (Value×Hp):=zaw (zaj 1 false (zab b) 0 fun y=>pBin PP .lss Aa y (.int .i64 1) fun z=>zaa z fun A=>br A (some (.ret,[(.tuple #[(.int .i64 0),(.int .i64 73)])],j)) (zaj 1 false (zab b) 0 fun B=>pBin PP .gtr Aa B (.int .i64 33) fun C=>zaa C fun D=>br D (some (.ret,[(.tuple #[(.int .i64 0),(.int .i64 73)])],j)) (some (.next,[],j)))) fun E F g=>zaG E (zaw (zaj 1 false (zab b) 1 fun G=>pBin PP .lss Aa G (.int .i64 0) fun H=>zaa H fun I=>br I (some (.ret,[(.tuple #[(.int .i64 0),(.int .i64 5)])],g)) (zaj 1 false (zab b) 1 fun J=>pBin PP .gtr Aa J (.int .i64 64) fun K=>zaa K fun L=>br L (some (.ret,[(.tuple #[(.int .i64 0),(.int .i64 5)])],g)) (some (.next,[],g)))) fun M N m=>zaG M (zaj 1 false (zab b) 2 fun O=>zaj 1 false (zab b) 3 fun P=>zaj 1 false (zab b) 4 fun Q=>zaE PP Br [(0,O),(1,P),(2,Q)] fun S=>zaw (zau (fun d n=>pBin PP .lss Aa (d.getD 0 undef) (.int .i64 3) fun T=>zaa T fun U=>br U (zcj 3 false 1 S (d.getD 0 undef) fun V=>zaj 1 false (zab b) 0 fun W=>zae R Av [W] n fun X o=>pBin PP .lss Aa (d.getD 0 undef) X fun Y=>zaa Y fun Z=>br Z (zae R AH [a,V] o fun aa p=>pUn .not aa fun ab=>zaa ab fun ac=>br ac (some (.ret,[(.tuple #[(.int .i64 0),(.int .i64 70)])],p)) (pBin PP .add Aa (d.getD 0 undef) (.int .i64 1) fun ad=>some (.next,[ad],p))) (pBin PP .add Aa (d.getD 0 undef) (.int .i64 1) fun ae=>some (.next,[ae],o))) (some (.exit 0,[(d.getD 0 undef)],n))) [(.int .i64 0)] m) fun af ag q=>zaG af none (fun ah=>zax ah 0 (zaj 7 true (zab b) 0 fun ai=>zae R BO [ai] q fun aj r=>zaa aj fun ak=>br ak (some ((.tuple #[(.int .i64 0),(.int .i64 1)]),r)) (zaj 7 true (zab b) 0 fun al=>zae R BL [a,al] r fun am s=>pUn .not am fun ao=>zaa ao fun ap=>br ap (some ((.tuple #[(.int .i64 0),(.int .i64 71)]),s)) (zaj 7 true (zab b) 0 fun aq=>zae R BM [a,aq] s fun ar e=>pUn .not ar fun au=>zaa au fun av=>br av (some ((.tuple #[(.int .i64 0),(.int .i64 5)]),e)) (zaw (zaj 1 false (zab b) 0 fun aw=>pBin PP .eql Aa aw (.int .i64 4) fun ax=>zaa ax fun ay=>br ay (pNil a (zav 3 a fun az=>zak 1 false e az fun ba=>zaj 1 false (zab b) 6 fun bb=>za7 PP Ac (.int .i64 0) ba bb true e fun t=>zac t 0 fun bc=>zac t 1 fun bd=>zaj 1 false (zab b) 6 fun be=>zae R AS [be] e fun bf h=>pUn .not bf fun bg=>zaa bg fun bh=>br bh (some (.ret,[(.tuple #[(.int .i64 0),(.int .i64 72)])],h)) (zaa bd fun bi=>br bi (zaj 1 false (zab b) 1 fun bj=>pBin PP .neq Aa bc bj fun bk=>zaa bk fun bl=>br bl (some (.ret,[(.tuple #[(.int .i64 0),(.int .i64 72)])],h)) (some (.next,[],h))) (some (.next,[],h))))) (some (.next,[],e))) fun bm bn c=>zaG bm (pNil a (zav 2 a fun bo=>zak 1 false c bo fun bp=>zaj 7 true (zab b) 0 fun bq=>za7 PP Am (.int .i64 0) bp bq true c fun u=>zac u 0 fun bs=>zac u 1 fun bt=>zaa bt fun bu=>br bu (some ((.tuple #[bs,(.int .i64 0)]),c)) (zaw (pNil a (zav 0 a fun bv=>zak 1 false c bv fun bw=>pBin PP .gtr Aa bw (.int .i64 0) fun bx=>zaa bx fun bz=>br bz (pNil a (zav 1 a fun ca=>zak 1 false c ca fun cb=>pLen .sl cb c fun cc=>pNil a (zav 0 a fun cd=>zak 1 false c cd fun ce=>pBin PP .geq Aa cc ce fun cf=>zaa cf fun cg=>br cg (some (.ret,[(.tuple #[(.int .i64 0),(.int .i64 4)])],c)) (some (.next,[],c))))) (some (.next,[],c)))) fun ch ci k=>zaG ch (pNil a (zav 1 a fun v=>zak 1 false k v fun w=>zaj 7 true (zab b) 0 fun cj=>zal 7 [.int .i64 0,.int .i64 0,.int .i64 0,.int .i64 0,.int .i64 0,.int .u64 0,.string ⟨#[]⟩] 1 [(0,cj)] k fun ck x=>chk (Hp.rdP x v 1 false=some w) (zaF 7 64 w ck x fun cl cm=>pNil a (zav 1 a fun cn=>zas 1 cm cn cl fun i=>pNil a (zav 2 a fun co=>zak 1 false i co fun cp=>zaj 7 true (zab b) 0 fun cq=>pNil a (zav 1 a fun cr=>zak 1 false i cr fun cs=>pLen .sl cs i fun ct=>pUpd PP Am cp cq ct i fun f=>zaj 1 false (zab b) 0 fun cu=>pBin PP .eql Aa cu (.int .i64 4) fun cv=>zaa cv fun cw=>br cw (pNil a (zav 3 a fun cx=>zak 1 false f cx fun cy=>zaj 1 false (zab b) 6 fun cz=>zaj 1 false (zab b) 1 fun da=>pUpd PP Ac cy cz da f fun l=>pNil a (zav 1 a fun db=>zak 1 false l db fun dc=>pLen .sl dc l fun dd=>some ((.tuple #[dd,(.int .i64 0)]),l)))) (pNil a (zav 1 a fun de=>zak 1 false f de fun df=>pLen .sl df f fun dg=>some ((.tuple #[dg,(.int .i64 0)]),f))))))))) (fun dh=>none) (some ((ci.headD undef),k))))) (fun di=>none) (some ((bn.headD undef),c)))))) (none)) (some ((ag.headD undef),q))) (fun dj=>none) (some ((N.headD undef),m))) (fun dk=>none) (some ((F.headD undef),g))
noncomputable def zfk(R:zaf)(b c:Value)(d:Hp):Option (Value×Hp):=zae R AH [b,c] d fun e a=>pUn .not e fun f=>zaa f fun g=>br g (some ((.int .i64 (-1)),a)) (pNil b (zav 1 b fun h=>zak 1 false a h fun i=>pBin PP .sub Aa c (.int .i64 1) fun j=>pIdx 7 i j fun k=>zav 1 k fun l=>zak 1 false a l fun m=>some (m,a)))
noncomputable def zeQ(R:zaf)(b c:Value)(a:Hp):Option (Value×Hp):=pBin PP .geq Aa c (.int .i64 1) fun d=>zaa d fun e=>br e (pNil b (zav 1 b fun f=>zak 1 false a f fun g=>pLen .sl g a fun h=>pBin PP .leq Aa c h fun i=>some (i,a))) (some ((.bool false),a))
noncomputable def zg6(R:zaf)(a:Value)(b:Hp):Option (Value×Hp):=zd0 PP orc R Bc Go.Proofs.Tryz.f51 [a] b
noncomputable def zgb(R:zaf)(a b c d e:Value)(f:Hp):Option (Value×Hp):=zd0 PP orc R AW Go.Proofs.Tryz.f52 [a,b,c,d,e] f
noncomputable def zg8(R:zaf)(b c:Value)(a:Hp):Option (Value×Hp):=zak 1 false a c fun d=>zaj 1 false (zab b) 6 fun e=>za7 PP Ac (.int .i64 0) d e false a fun f=>some ((.tuple #[f,(.int .i64 0)]),a)
noncomputable def zgc(R:zaf)(c:Value)(d:Hp):Option (Value×Hp):=zcX [.int .i64 0] d fun b e=>zae R BD [c,(.iface Cf b)] e fun f a=>zaa f fun g=>br g (zak 1 false a b fun h=>some (h,a)) (some ((.int .i64 0),a))
noncomputable def ziB(R:zaf)(e:Value)(d:Hp):Option (Value×Hp):=zaw (pLen .str e d fun j=>pBin PP .lss Aa j (.int .i64 1) fun k=>zaa k fun l=>br l (some (.ret,[(.bool false)],d)) (pLen .str e d fun m=>pBin PP .gtr Aa m (.int .i64 24) fun n=>zaa n fun o=>br o (some (.ret,[(.bool false)],d)) (some (.next,[],d)))) fun p q f=>zaG p (zjb e fun s11=>zaw (zau (fun a b=>br (Nat.blt (za1 ((a.drop 0).getD 0 undef)) (za4 ((a.drop 0).getD 0 undef)).size) (zaw (pBin PP .geq Af (.int .i32 (Utf8.decode (za4 ((a.drop 0).getD 0 undef)) (za1 ((a.drop 0).getD 0 undef))).1) (.int .i32 97) fun r=>zaa r fun s=>br s (pBin PP .leq Af (.int .i32 (Utf8.decode (za4 ((a.drop 0).getD 0 undef)) (za1 ((a.drop 0).getD 0 undef))).1) (.int .i32 122) fun t=>zaa t fun u=>br u (some (.next,[(.bool true)],b)) (pBin PP .geq Af (.int .i32 (Utf8.decode (za4 ((a.drop 0).getD 0 undef)) (za1 ((a.drop 0).getD 0 undef))).1) (.int .i32 65) fun v=>zaa v fun w=>br w (pBin PP .leq Af (.int .i32 (Utf8.decode (za4 ((a.drop 0).getD 0 undef)) (za1 ((a.drop 0).getD 0 undef))).1) (.int .i32 90) fun x=>zaa x fun y=>br y (some (.next,[(.bool true)],b)) (pBin PP .eql Af (.int .i32 (Utf8.decode (za4 ((a.drop 0).getD 0 undef)) (za1 ((a.drop 0).getD 0 undef))).1) (.int .i32 95) fun z=>some (.next,[z],b))) (pBin PP .eql Af (.int .i32 (Utf8.decode (za4 ((a.drop 0).getD 0 undef)) (za1 ((a.drop 0).getD 0 undef))).1) (.int .i32 95) fun A=>some (.next,[A],b)))) (pBin PP .geq Af (.int .i32 (Utf8.decode (za4 ((a.drop 0).getD 0 undef)) (za1 ((a.drop 0).getD 0 undef))).1) (.int .i32 65) fun B=>zaa B fun C=>br C (pBin PP .leq Af (.int .i32 (Utf8.decode (za4 ((a.drop 0).getD 0 undef)) (za1 ((a.drop 0).getD 0 undef))).1) (.int .i32 90) fun D=>zaa D fun E=>br E (some (.next,[(.bool true)],b)) (pBin PP .eql Af (.int .i32 (Utf8.decode (za4 ((a.drop 0).getD 0 undef)) (za1 ((a.drop 0).getD 0 undef))).1) (.int .i32 95) fun F=>some (.next,[F],b))) (pBin PP .eql Af (.int .i32 (Utf8.decode (za4 ((a.drop 0).getD 0 undef)) (za1 ((a.drop 0).getD 0 undef))).1) (.int .i32 95) fun G=>some (.next,[G],b)))) fun H g c=>zaG H (pUn .not (g.getD 0 undef) fun I=>zaa I fun J=>br J (pBin PP .eql Aa (.int .i64 ((za1 ((a.drop 0).getD 0 undef)):Nat)) (.int .i64 0) fun K=>zaa K fun L=>br L (some (.ret,[(.bool false)],c)) (pBin PP .lss Af (.int .i32 (Utf8.decode (za4 ((a.drop 0).getD 0 undef)) (za1 ((a.drop 0).getD 0 undef))).1) (.int .i32 48) fun M=>zaa M fun N=>br N (some (.ret,[(.bool false)],c)) (pBin PP .gtr Af (.int .i32 (Utf8.decode (za4 ((a.drop 0).getD 0 undef)) (za1 ((a.drop 0).getD 0 undef))).1) (.int .i32 57) fun O=>zaa O fun P=>br P (some (.ret,[(.bool false)],c)) (some (.next,[(.tuple #[.string (za4 ((a.drop 0).getD 0 undef)),.int .i64 (((za1 ((a.drop 0).getD 0 undef))+(Utf8.decode (za4 ((a.drop 0).getD 0 undef)) (za1 ((a.drop 0).getD 0 undef))).2):Nat)])],c))))) (some (.next,[(.tuple #[.string (za4 ((a.drop 0).getD 0 undef)),.int .i64 (((za1 ((a.drop 0).getD 0 undef))+(Utf8.decode (za4 ((a.drop 0).getD 0 undef)) (za1 ((a.drop 0).getD 0 undef))).2):Nat)])],c))) (fun h=>zax h 1 (some (.next,[(.tuple #[.string (za4 ((a.drop 0).getD 0 undef)),.int .i64 (((za1 ((a.drop 0).getD 0 undef))+(Utf8.decode (za4 ((a.drop 0).getD 0 undef)) (za1 ((a.drop 0).getD 0 undef))).2):Nat)])],c)) (some (.exit h,[(.tuple #[.string (za4 ((a.drop 0).getD 0 undef)),.int .i64 (((za1 ((a.drop 0).getD 0 undef))+(Utf8.decode (za4 ((a.drop 0).getD 0 undef)) (za1 ((a.drop 0).getD 0 undef))).2):Nat)])],c))) (some (.ret,[(g.headD undef)],c))) (some (.exit 0,[(.tuple #[.string (za4 ((a.drop 0).getD 0 undef)),.int .i64 ((za1 ((a.drop 0).getD 0 undef)):Nat)])],b))) [(.tuple #[.string s11,.int .i64 (0:Nat)])] f) fun Q S i=>zaG Q none (fun T=>zax T 0 (some ((.bool true),i)) (none)) (some ((S.headD undef),i))) (fun U=>none) (some ((q.headD undef),f))
noncomputable def zg5(R:zaf)(a:Hp):Option (Value×Hp):=zae R Bj [(.string ⟨#[45,32,116,114,117,101,32,102,97,108,115,101,32,99,111,110,115,116,32,118,97,114,32,110,111,116,32,97,110,100,32,111,114,32,120,111,114,32,101,113,32,117,108,116,32,117,108,101,32,115,108,116,32,115,108,101,32,105,116,101,32,99,111,109,32,110,101,103,32,98,97,110,100,32,98,111,114,32,98,120,111,114,32,97,100,100,32,115,117,98,32,109,117,108,32,100,105,118,32,114,101,109,32,115,104,108,32,115,104,114,32,115,97,114,32,114,111,108,32,114,111,114,32,99,97,116,32,115,108,105,99,101,32,122,101,120,116,32,115,101,120,116]⟩)] a fun b c=>some (b,c)
noncomputable def zg4(R:zaf)(b:Value)(c:Hp):Option (Value×Hp):=zaw (pBin PP .eql Aa b (.int .i64 1) fun d=>zaa d fun m=>br m (some (.next,[d],c)) (pBin PP .eql Aa b (.int .i64 2) fun e=>zaa e fun n=>br n (some (.next,[e],c)) (pBin PP .eql Aa b (.int .i64 3) fun f=>zaa f fun o=>br o (some (.next,[f],c)) (pBin PP .eql Aa b (.int .i64 4) fun p=>some (.next,[p],c))))) fun q g a=>zaG q (zaa (g.getD 0 undef) fun r=>br r (some ((.int .i64 0),a)) (pBin PP .eql Aa b (.int .i64 5) fun h=>zaa h fun s=>br s (zaa h fun t=>br t (some ((.int .i64 1),a)) (pBin PP .eql Aa b (.int .i64 14) fun u=>zaa u fun v=>br v (some ((.int .i64 3),a)) (some ((.int .i64 2),a)))) (pBin PP .eql Aa b (.int .i64 15) fun i=>zaa i fun w=>br w (zaa i fun x=>br x (some ((.int .i64 1),a)) (pBin PP .eql Aa b (.int .i64 14) fun y=>zaa y fun z=>br z (some ((.int .i64 3),a)) (some ((.int .i64 2),a)))) (pBin PP .eql Aa b (.int .i64 16) fun j=>zaa j fun A=>br A (zaa j fun B=>br B (some ((.int .i64 1),a)) (pBin PP .eql Aa b (.int .i64 14) fun C=>zaa C fun D=>br D (some ((.int .i64 3),a)) (some ((.int .i64 2),a)))) (pBin PP .eql Aa b (.int .i64 31) fun k=>zaa k fun E=>br E (zaa k fun F=>br F (some ((.int .i64 1),a)) (pBin PP .eql Aa b (.int .i64 14) fun G=>zaa G fun H=>br H (some ((.int .i64 3),a)) (some ((.int .i64 2),a)))) (pBin PP .eql Aa b (.int .i64 32) fun l=>zaa l fun I=>br I (zaa l fun J=>br J (some ((.int .i64 1),a)) (pBin PP .eql Aa b (.int .i64 14) fun K=>zaa K fun L=>br L (some ((.int .i64 3),a)) (some ((.int .i64 2),a)))) (pBin PP .eql Aa b (.int .i64 33) fun M=>zaa M fun N=>br N (some ((.int .i64 1),a)) (pBin PP .eql Aa b (.int .i64 14) fun O=>zaa O fun P=>br P (some ((.int .i64 3),a)) (some ((.int .i64 2),a)))))))))) (fun Q=>zax Q 0 (some ((.int .i64 2),a)) (none)) (some ((g.headD undef),a))
noncomputable def zeR(R:zaf)(a b:Value)(c:Hp):Option (Value×Hp):=zae R Bl [a,b,(.int .i64 0),(.int .i64 (-1))] c fun d e=>some (d,e)
noncomputable def zcw(R:zaf)(x b c d:Value)(a:Hp):Option (Value×Hp):=zdu PP .eql BT x fun e=>zaa e fun f=>br f (some ((.tuple #[]),a)) (zfC PP Ad x fun g=>zaN 1 [.int .i64 0] 0 g fun h=>zaj 1 false h 0 fun i=>zas 1 a b (.pointer none) fun j=>zas 1 j c (.slice none 0 0) fun k=>zas 1 k d i fun l=>some ((.tuple #[]),l))
theorem zgr(R:zaf)(x a b c:Value)(d:Hp){α:Type}(k:Hp→Option α):zgp PP orc R Bm [a,b,c] x d k=zgu (zcw R x a b c d) fun _ H=>k H:=by kernel_rfl
noncomputable def zde(R:zaf)(a b:Value)(c:Hp):Option (Value×Hp):=zd0 PP orc R AG Go.Proofs.Tryz.f67 [a,b] c
noncomputable def zga(R:zaf)(a:Value)(b:Hp):Option (Value×Hp):=pBin PP .eql Af a (.int .i32 32) fun c=>some (c,b)
noncomputable def zcv(R:zaf)(a:Value)(b:Hp):Option (Value×Hp):=pNil a (zav 1 a fun c=>zak 1 false b c fun d=>pLen .sl d b fun e=>pBin PP .eql Aa e (.int .i64 0) fun f=>zaa f fun g=>br g (zaE PP Ad [(0,(.int .i64 3))] fun h=>some ((W0 (.iface Ad h)),b)) (pNil a (zav 1 a fun i=>zak 1 false b i fun j=>pIdx 1 j (.int .i64 0) fun k=>zak 1 false b k fun l=>pNil a (zav 1 a fun m=>zak 1 false b m fun n=>zda 1 n (some (.int .i64 1)) none fun o=>pNil a (zav 1 a fun p=>zas 1 b p o fun q=>some ((W1 l),q))))))
noncomputable def zdN(R:zaf)(b:Value)(d:Hp):Option (Value×Hp):=zbk R An [b] d (fun e f=>some ((W0 e),f)) fun c a=>pBin PP .lss Aa c (.int .i64 1) fun g=>zaa g fun h=>br h (zaE PP Ad [(0,(.int .i64 3))] fun i=>some ((W0 (.iface Ad i)),a)) (pNil b (zav 2 b fun j=>zak 1 false a j fun k=>pLen .sl k a fun l=>pBin PP .gtr Aa c l fun m=>zaa m fun n=>br n (zaE PP Ad [(0,(.int .i64 3))] fun o=>some ((W0 (.iface Ad o)),a)) (pNil b (zav 2 b fun p=>zak 1 false a p fun q=>pBin PP .sub Aa c (.int .i64 1) fun r=>pIdx 1 q r fun s=>zak 1 false a s fun t=>some ((W1 t),a)))))
noncomputable def zdd(R:zaf)(d:Value)(e:Hp):Option (Value×Hp):=zbk R Ap [d] e (fun f g=>some ((W0 f),g)) fun h i=>zae R AL [h] i fun b a=>zac b 0 fun c=>zac b 1 fun j=>pBin PP .neq Ai j (.int .i64 0) fun k=>zaa k fun l=>br l (zaE PP Ad [(0,(.int .i64 3))] fun m=>some ((W0 (.iface Ad m)),a)) (pBin PP .geq Ab c (.int .u64 2147483648) fun n=>zaa n fun o=>br o (zaE PP Ad [(0,(.int .i64 3))] fun p=>some ((W0 (.iface Ad p)),a)) (zaq .i64 c fun q=>some ((W1 q),a)))
noncomputable def zdO(R:zaf)(a:Value)(b:Hp):Option (Value×Hp):=zd0 PP orc R AI Go.Proofs.Tryz.f72 [a] b
noncomputable def ziA(R:zaf)(a c:Value)(b:Hp):Option (Value×Hp):=pBin PP .lss Aa a (.int .i64 1) fun d=>zaa d fun e=>br e (some ((.int .u64 0),b)) (pBin PP .geq Aa a (.int .i64 64) fun f=>zaa f fun g=>br g (some (c,b)) (zaq .u64 a fun h=>pBin PP .shl Ab (.int .u64 1) h fun i=>pBin PP .sub Ab i (.int .u64 1) fun j=>pBin PP .and Ab c j fun k=>some (k,b)))
noncomputable def zjM(R:zaf)(b:Value)(a:Hp):Option (Value×Hp):=zaa b fun c=>br c (some ((.int .u64 1),a)) (some ((.int .u64 0),a))
noncomputable def zjP(R:zaf)(a b k l:Value)(f:Hp):Option (Value×Hp):=zaw (pBin PP .lss Aa a (.int .i64 9) fun m=>zaa m fun n=>br n (some (.ret,[(.tuple #[(.bool false),(.int .i64 73)])],f)) (pBin PP .gtr Aa a (.int .i64 13) fun o=>zaa o fun p=>br p (some (.ret,[(.tuple #[(.bool false),(.int .i64 73)])],f)) (some (.next,[],f)))) fun q r g=>zaG q (zae R Aq [b] g fun s h=>pUn .not s fun t=>zaa t fun u=>br u (some ((.tuple #[(.bool false),(.int .i64 5)]),h)) (zae R Ae [b,k] h fun d v=>zae R Ae [b,l] v fun e w=>zae R AN [b,d] w fun i x=>zae R AN [b,e] x fun j c=>pBin PP .eql Aa a (.int .i64 9) fun y=>zaa y fun z=>br z (pBin PP .eql Ab d e fun A=>some ((.tuple #[A,(.int .i64 0)]),c)) (pBin PP .eql Aa a (.int .i64 10) fun B=>zaa B fun C=>br C (pBin PP .lss Ab d e fun D=>some ((.tuple #[D,(.int .i64 0)]),c)) (pBin PP .eql Aa a (.int .i64 11) fun E=>zaa E fun F=>br F (pBin PP .leq Ab d e fun G=>some ((.tuple #[G,(.int .i64 0)]),c)) (pBin PP .eql Aa a (.int .i64 12) fun H=>zaa H fun I=>br I (pBin PP .lss BQ i j fun J=>some ((.tuple #[J,(.int .i64 0)]),c)) (pBin PP .leq BQ i j fun K=>some ((.tuple #[K,(.int .i64 0)]),c))))))) (fun L=>none) (some ((r.headD undef),g))
noncomputable def zl5(R:zaf)(b a c:Value)(d:Hp):Option (Value×Hp):=pBin PP .neq Aa b (.int .i64 15) fun g=>zaa g fun h=>br h (pBin PP .neq Aa b (.int .i64 16) fun i=>zaa i fun j=>br j (some ((.tuple #[(.int .u64 0),(.int .i64 73)]),d)) (zae R Aq [a] d fun k e=>pUn .not k fun l=>zaa l fun m=>br m (some ((.tuple #[(.int .u64 0),(.int .i64 5)]),e)) (pBin PP .eql Aa b (.int .i64 15) fun n=>zaa n fun o=>br o (pUn .xor c fun p=>zae R Ae [a,p] e fun q r=>some ((.tuple #[q,(.int .i64 0)]),r)) (pUn .neg c fun s=>zae R Ae [a,s] e fun t u=>some ((.tuple #[t,(.int .i64 0)]),u))))) (zae R Aq [a] d fun v f=>pUn .not v fun w=>zaa w fun x=>br x (some ((.tuple #[(.int .u64 0),(.int .i64 5)]),f)) (pBin PP .eql Aa b (.int .i64 15) fun y=>zaa y fun z=>br z (pUn .xor c fun A=>zae R Ae [a,A] f fun B C=>some ((.tuple #[B,(.int .i64 0)]),C)) (pUn .neg c fun D=>zae R Ae [a,D] f fun E F=>some ((.tuple #[E,(.int .i64 0)]),F))))
noncomputable def zjR(R:zaf)(b a l m:Value)(f:Hp):Option (Value×Hp):=zaw (pBin PP .lss Aa b (.int .i64 17) fun n=>zaa n fun o=>br o (some (.ret,[(.tuple #[(.int .u64 0),(.int .i64 73)])],f)) (pBin PP .gtr Aa b (.int .i64 29) fun p=>zaa p fun q=>br q (some (.ret,[(.tuple #[(.int .u64 0),(.int .i64 73)])],f)) (some (.next,[],f)))) fun r s g=>zaG r (zaw (zae R Aq [a] g fun t h=>pUn .not t fun u=>zaa u fun v=>br v (some (.ret,[(.tuple #[(.int .u64 0),(.int .i64 5)])],h)) (zae R A7 [b] h fun w i=>zaa w fun x=>br x (zaq .u64 a fun y=>zae R AT [y] i fun z j=>pBin PP .neq Aa z (.int .i64 1) fun A=>zaa A fun B=>br B (some (.ret,[(.tuple #[(.int .u64 0),(.int .i64 5)])],j)) (some (.next,[],j))) (some (.next,[],i)))) fun C D k=>zaG C (zae R Ae [a,l] k fun e E=>zae R Ae [a,m] E fun d F=>zae R A7 [b] F fun G c=>zaa G fun H=>br H (zaq .u64 a fun I=>pBin PP .rem Ab d I fun J=>zaq .i64 J fun K=>zae R A6 [b,a,e,K] c fun L M=>some ((.tuple #[L,(.int .i64 0)]),M)) (pBin PP .eql Aa b (.int .i64 17) fun N=>zaa N fun O=>br O (pBin PP .and Ab e d fun P=>zae R Ae [a,P] c fun Q S=>some ((.tuple #[Q,(.int .i64 0)]),S)) (pBin PP .eql Aa b (.int .i64 18) fun T=>zaa T fun U=>br U (pBin PP .or Ab e d fun V=>zae R Ae [a,V] c fun W X=>some ((.tuple #[W,(.int .i64 0)]),X)) (pBin PP .eql Aa b (.int .i64 19) fun Y=>zaa Y fun Z=>br Z (pBin PP .xor Ab e d fun aa=>zae R Ae [a,aa] c fun ab ac=>some ((.tuple #[ab,(.int .i64 0)]),ac)) (pBin PP .eql Aa b (.int .i64 20) fun ad=>zaa ad fun ae=>br ae (pBin PP .add Ab e d fun af=>zae R Ae [a,af] c fun ag ah=>some ((.tuple #[ag,(.int .i64 0)]),ah)) (pBin PP .eql Aa b (.int .i64 21) fun ai=>zaa ai fun aj=>br aj (pBin PP .sub Ab e d fun ak=>zae R Ae [a,ak] c fun al am=>some ((.tuple #[al,(.int .i64 0)]),am)) (pBin PP .eql Aa b (.int .i64 22) fun ao=>zaa ao fun ap=>br ap (pBin PP .mul Ab e d fun aq=>zae R Ae [a,aq] c fun ar au=>some ((.tuple #[ar,(.int .i64 0)]),au)) (pBin PP .eql Aa b (.int .i64 23) fun av=>zaa av fun aw=>br aw (pBin PP .neq Ab d (.int .u64 0) fun ax=>zaa ax fun ay=>br ay (pBin PP .quo Ab e d fun az=>zae R Ae [a,az] c fun ba bb=>some ((.tuple #[ba,(.int .i64 0)]),bb)) (zae R Ae [a,(.int .u64 18446744073709551615)] c fun bc bd=>some ((.tuple #[bc,(.int .i64 0)]),bd))) (pBin PP .eql Aa b (.int .i64 24) fun be=>zaa be fun bf=>br bf (pBin PP .neq Ab d (.int .u64 0) fun bg=>zaa bg fun bh=>br bh (pBin PP .rem Ab e d fun bi=>zae R Ae [a,bi] c fun bj bk=>some ((.tuple #[bj,(.int .i64 0)]),bk)) (zae R Ae [a,e] c fun bl bm=>some ((.tuple #[bl,(.int .i64 0)]),bm))) (zae R Ae [a,(.int .u64 0)] c fun bn bo=>some ((.tuple #[bn,(.int .i64 0)]),bo))))))))))) (fun bp=>none) (some ((D.headD undef),k))) (fun bq=>none) (some ((s.headD undef),g))
noncomputable def zjQ(R:zaf)(b e a f:Value)(g:Hp):Option (Value×Hp):=zae R Aq [b] g fun h d=>pUn .not h fun i=>zaa i fun j=>br j (some ((.tuple #[(.int .u64 0),(.int .i64 5)]),d)) (zae R Aq [a] d fun k c=>pUn .not k fun l=>zaa l fun m=>br m (some ((.tuple #[(.int .u64 0),(.int .i64 5)]),c)) (pBin PP .add Aa b a fun n=>pBin PP .gtr Aa n (.int .i64 64) fun o=>zaa o fun p=>br p (some ((.tuple #[(.int .u64 0),(.int .i64 5)]),c)) (zae R Ae [b,e] c fun q r=>zaq .u64 a fun s=>pBin PP .shl Ab q s fun t=>zae R Ae [a,f] r fun u v=>pBin PP .or Ab t u fun w=>some ((.tuple #[w,(.int .i64 0)]),v))))
noncomputable def zha(R:zaf)(b f c d:Value)(g:Hp):Option (Value×Hp):=zaw (zae R Aq [b] g fun h a=>pUn .not h fun i=>zaa i fun j=>br j (some (.ret,[(.tuple #[(.int .u64 0),(.int .i64 5)])],a)) (pBin PP .lss Aa d (.int .i64 1) fun k=>zaa k fun l=>br l (some (.ret,[(.tuple #[(.int .u64 0),(.int .i64 5)])],a)) (pBin PP .lss Aa c (.int .i64 0) fun m=>zaa m fun n=>br n (some (.ret,[(.tuple #[(.int .u64 0),(.int .i64 5)])],a)) (pBin PP .gtr Aa c b fun o=>zaa o fun p=>br p (some (.ret,[(.tuple #[(.int .u64 0),(.int .i64 5)])],a)) (pBin PP .sub Aa b c fun q=>pBin PP .gtr Aa d q fun r=>zaa r fun s=>br s (some (.ret,[(.tuple #[(.int .u64 0),(.int .i64 5)])],a)) (some (.next,[],a))))))) fun t u e=>zaG t (zae R Ae [b,f] e fun v w=>zaq .u64 c fun x=>pBin PP .shr Ab v x fun y=>zae R Ae [d,y] w fun z A=>some ((.tuple #[z,(.int .i64 0)]),A)) (fun B=>none) (some ((u.headD undef),e))
noncomputable def zjO(R:zaf)(b a g c:Value)(d:Hp):Option (Value×Hp):=zaw (pBin PP .neq Aa b (.int .i64 32) fun j=>zaa j fun k=>br k (pBin PP .neq Aa b (.int .i64 33) fun l=>zaa l fun m=>br m (some (.ret,[(.tuple #[(.int .u64 0),(.int .i64 73)])],d)) (some (.next,[],d))) (some (.next,[],d))) fun n o h=>zaG n (zaw (zae R Aq [a] h fun p i=>pUn .not p fun q=>zaa q fun r=>br r (some (.ret,[(.tuple #[(.int .u64 0),(.int .i64 5)])],i)) (zae R Aq [c] i fun s e=>pUn .not s fun t=>zaa t fun u=>br u (some (.ret,[(.tuple #[(.int .u64 0),(.int .i64 5)])],e)) (pBin PP .lss Aa c a fun v=>zaa v fun w=>br w (some (.ret,[(.tuple #[(.int .u64 0),(.int .i64 5)])],e)) (some (.next,[],e))))) fun x y f=>zaG x (pBin PP .eql Aa b (.int .i64 32) fun z=>zaa z fun A=>br A (zae R Ae [a,g] f fun B C=>some ((.tuple #[B,(.int .i64 0)]),C)) (zae R AN [a,g] f fun D E=>zaq .u64 D fun F=>zae R Ae [c,F] E fun G H=>some ((.tuple #[G,(.int .i64 0)]),H))) (fun I=>none) (some ((y.headD undef),f))) (fun J=>none) (some ((o.headD undef),h))
noncomputable def zg3(R:zaf)(a:Value)(d:Hp):Option (Value×Hp):=zaj 1 false (zab a) 0 fun e=>zae R Av [e] d fun c b=>pBin PP .lss Aa c (.int .i64 1) fun f=>zaa f fun g=>br g (zaj 1 false (zab a) 2 fun h=>pBin PP .neq Aa h (.int .i64 0) fun i=>zaa i fun j=>br j (some ((.bool true),b)) (pBin PP .lss Aa c (.int .i64 2) fun k=>zaa k fun l=>br l (zaj 1 false (zab a) 3 fun m=>pBin PP .neq Aa m (.int .i64 0) fun n=>zaa n fun o=>br o (some ((.bool true),b)) (pBin PP .lss Aa c (.int .i64 3) fun p=>zaa p fun q=>br q (zaj 1 false (zab a) 4 fun r=>pBin PP .neq Aa r (.int .i64 0) fun s=>zaa s fun t=>br t (some ((.bool true),b)) (zaj 1 false (zab a) 5 fun u=>pBin PP .neq Ab u (.int .u64 0) fun v=>zaa v fun w=>br w (zaj 1 false (zab a) 0 fun x=>pBin PP .neq Aa x (.int .i64 3) fun y=>zaa y fun z=>br z (zaj 1 false (zab a) 0 fun A=>pBin PP .neq Aa A (.int .i64 31) fun B=>zaa B fun C=>br C (some ((.bool true),b)) (zaj 1 false (zab a) 6 fun D=>pBin PP .neq Ac D (.string ⟨#[]⟩) fun E=>zaa E fun F=>br F (zaj 1 false (zab a) 0 fun G=>pBin PP .neq Aa G (.int .i64 4) fun H=>some (H,b)) (some ((.bool false),b)))) (zaj 1 false (zab a) 6 fun I=>pBin PP .neq Ac I (.string ⟨#[]⟩) fun J=>zaa J fun K=>br K (zaj 1 false (zab a) 0 fun L=>pBin PP .neq Aa L (.int .i64 4) fun M=>some (M,b)) (some ((.bool false),b)))) (zaj 1 false (zab a) 6 fun N=>pBin PP .neq Ac N (.string ⟨#[]⟩) fun O=>zaa O fun P=>br P (zaj 1 false (zab a) 0 fun Q=>pBin PP .neq Aa Q (.int .i64 4) fun S=>some (S,b)) (some ((.bool false),b))))) (zaj 1 false (zab a) 5 fun T=>pBin PP .neq Ab T (.int .u64 0) fun U=>zaa U fun V=>br V (zaj 1 false (zab a) 0 fun W=>pBin PP .neq Aa W (.int .i64 3) fun X=>zaa X fun Y=>br Y (zaj 1 false (zab a) 0 fun Z=>pBin PP .neq Aa Z (.int .i64 31) fun aa=>zaa aa fun ab=>br ab (some ((.bool true),b)) (zaj 1 false (zab a) 6 fun ac=>pBin PP .neq Ac ac (.string ⟨#[]⟩) fun ad=>zaa ad fun ae=>br ae (zaj 1 false (zab a) 0 fun af=>pBin PP .neq Aa af (.int .i64 4) fun ag=>some (ag,b)) (some ((.bool false),b)))) (zaj 1 false (zab a) 6 fun ah=>pBin PP .neq Ac ah (.string ⟨#[]⟩) fun ai=>zaa ai fun aj=>br aj (zaj 1 false (zab a) 0 fun ak=>pBin PP .neq Aa ak (.int .i64 4) fun al=>some (al,b)) (some ((.bool false),b)))) (zaj 1 false (zab a) 6 fun am=>pBin PP .neq Ac am (.string ⟨#[]⟩) fun ao=>zaa ao fun ap=>br ap (zaj 1 false (zab a) 0 fun aq=>pBin PP .neq Aa aq (.int .i64 4) fun ar=>some (ar,b)) (some ((.bool false),b)))))) (pBin PP .lss Aa c (.int .i64 3) fun au=>zaa au fun av=>br av (zaj 1 false (zab a) 4 fun aw=>pBin PP .neq Aa aw (.int .i64 0) fun ax=>zaa ax fun ay=>br ay (some ((.bool true),b)) (zaj 1 false (zab a) 5 fun az=>pBin PP .neq Ab az (.int .u64 0) fun ba=>zaa ba fun bb=>br bb (zaj 1 false (zab a) 0 fun bc=>pBin PP .neq Aa bc (.int .i64 3) fun bd=>zaa bd fun be=>br be (zaj 1 false (zab a) 0 fun bf=>pBin PP .neq Aa bf (.int .i64 31) fun bg=>zaa bg fun bh=>br bh (some ((.bool true),b)) (zaj 1 false (zab a) 6 fun bi=>pBin PP .neq Ac bi (.string ⟨#[]⟩) fun bj=>zaa bj fun bk=>br bk (zaj 1 false (zab a) 0 fun bl=>pBin PP .neq Aa bl (.int .i64 4) fun bm=>some (bm,b)) (some ((.bool false),b)))) (zaj 1 false (zab a) 6 fun bn=>pBin PP .neq Ac bn (.string ⟨#[]⟩) fun bo=>zaa bo fun bp=>br bp (zaj 1 false (zab a) 0 fun bq=>pBin PP .neq Aa bq (.int .i64 4) fun bs=>some (bs,b)) (some ((.bool false),b)))) (zaj 1 false (zab a) 6 fun bt=>pBin PP .neq Ac bt (.string ⟨#[]⟩) fun bu=>zaa bu fun bv=>br bv (zaj 1 false (zab a) 0 fun bw=>pBin PP .neq Aa bw (.int .i64 4) fun bx=>some (bx,b)) (some ((.bool false),b))))) (zaj 1 false (zab a) 5 fun bz=>pBin PP .neq Ab bz (.int .u64 0) fun ca=>zaa ca fun cb=>br cb (zaj 1 false (zab a) 0 fun cc=>pBin PP .neq Aa cc (.int .i64 3) fun cd=>zaa cd fun ce=>br ce (zaj 1 false (zab a) 0 fun cf=>pBin PP .neq Aa cf (.int .i64 31) fun cg=>zaa cg fun ch=>br ch (some ((.bool true),b)) (zaj 1 false (zab a) 6 fun ci=>pBin PP .neq Ac ci (.string ⟨#[]⟩) fun cj=>zaa cj fun ck=>br ck (zaj 1 false (zab a) 0 fun cl=>pBin PP .neq Aa cl (.int .i64 4) fun cm=>some (cm,b)) (some ((.bool false),b)))) (zaj 1 false (zab a) 6 fun cn=>pBin PP .neq Ac cn (.string ⟨#[]⟩) fun co=>zaa co fun cp=>br cp (zaj 1 false (zab a) 0 fun cq=>pBin PP .neq Aa cq (.int .i64 4) fun cr=>some (cr,b)) (some ((.bool false),b)))) (zaj 1 false (zab a) 6 fun cs=>pBin PP .neq Ac cs (.string ⟨#[]⟩) fun ct=>zaa ct fun cu=>br cu (zaj 1 false (zab a) 0 fun cv=>pBin PP .neq Aa cv (.int .i64 4) fun cw=>some (cw,b)) (some ((.bool false),b))))))) (pBin PP .lss Aa c (.int .i64 2) fun cx=>zaa cx fun cy=>br cy (zaj 1 false (zab a) 3 fun cz=>pBin PP .neq Aa cz (.int .i64 0) fun da=>zaa da fun db=>br db (some ((.bool true),b)) (pBin PP .lss Aa c (.int .i64 3) fun dc=>zaa dc fun dd=>br dd (zaj 1 false (zab a) 4 fun de=>pBin PP .neq Aa de (.int .i64 0) fun df=>zaa df fun dg=>br dg (some ((.bool true),b)) (zaj 1 false (zab a) 5 fun dh=>pBin PP .neq Ab dh (.int .u64 0) fun di=>zaa di fun dj=>br dj (zaj 1 false (zab a) 0 fun dk=>pBin PP .neq Aa dk (.int .i64 3) fun dl=>zaa dl fun dm=>br dm (zaj 1 false (zab a) 0 fun dn=>pBin PP .neq Aa dn (.int .i64 31) fun dp=>zaa dp fun dq=>br dq (some ((.bool true),b)) (zaj 1 false (zab a) 6 fun dr=>pBin PP .neq Ac dr (.string ⟨#[]⟩) fun ds=>zaa ds fun dt=>br dt (zaj 1 false (zab a) 0 fun du=>pBin PP .neq Aa du (.int .i64 4) fun dv=>some (dv,b)) (some ((.bool false),b)))) (zaj 1 false (zab a) 6 fun dw=>pBin PP .neq Ac dw (.string ⟨#[]⟩) fun dx=>zaa dx fun dy=>br dy (zaj 1 false (zab a) 0 fun dz=>pBin PP .neq Aa dz (.int .i64 4) fun ea=>some (ea,b)) (some ((.bool false),b)))) (zaj 1 false (zab a) 6 fun eb=>pBin PP .neq Ac eb (.string ⟨#[]⟩) fun ec=>zaa ec fun ed=>br ed (zaj 1 false (zab a) 0 fun ee=>pBin PP .neq Aa ee (.int .i64 4) fun ef=>some (ef,b)) (some ((.bool false),b))))) (zaj 1 false (zab a) 5 fun eg=>pBin PP .neq Ab eg (.int .u64 0) fun eh=>zaa eh fun ei=>br ei (zaj 1 false (zab a) 0 fun ej=>pBin PP .neq Aa ej (.int .i64 3) fun ek=>zaa ek fun el=>br el (zaj 1 false (zab a) 0 fun em=>pBin PP .neq Aa em (.int .i64 31) fun en=>zaa en fun eo=>br eo (some ((.bool true),b)) (zaj 1 false (zab a) 6 fun ep=>pBin PP .neq Ac ep (.string ⟨#[]⟩) fun eq=>zaa eq fun er=>br er (zaj 1 false (zab a) 0 fun es=>pBin PP .neq Aa es (.int .i64 4) fun et=>some (et,b)) (some ((.bool false),b)))) (zaj 1 false (zab a) 6 fun eu=>pBin PP .neq Ac eu (.string ⟨#[]⟩) fun ev=>zaa ev fun ew=>br ew (zaj 1 false (zab a) 0 fun ex=>pBin PP .neq Aa ex (.int .i64 4) fun ey=>some (ey,b)) (some ((.bool false),b)))) (zaj 1 false (zab a) 6 fun ez=>pBin PP .neq Ac ez (.string ⟨#[]⟩) fun fa=>zaa fa fun fb=>br fb (zaj 1 false (zab a) 0 fun fc=>pBin PP .neq Aa fc (.int .i64 4) fun fd=>some (fd,b)) (some ((.bool false),b)))))) (pBin PP .lss Aa c (.int .i64 3) fun fe=>zaa fe fun ff=>br ff (zaj 1 false (zab a) 4 fun fg=>pBin PP .neq Aa fg (.int .i64 0) fun fh=>zaa fh fun fi=>br fi (some ((.bool true),b)) (zaj 1 false (zab a) 5 fun fj=>pBin PP .neq Ab fj (.int .u64 0) fun fk=>zaa fk fun fl=>br fl (zaj 1 false (zab a) 0 fun fm=>pBin PP .neq Aa fm (.int .i64 3) fun fn=>zaa fn fun fo=>br fo (zaj 1 false (zab a) 0 fun fp=>pBin PP .neq Aa fp (.int .i64 31) fun fq=>zaa fq fun fr=>br fr (some ((.bool true),b)) (zaj 1 false (zab a) 6 fun fs=>pBin PP .neq Ac fs (.string ⟨#[]⟩) fun ft=>zaa ft fun fu=>br fu (zaj 1 false (zab a) 0 fun fv=>pBin PP .neq Aa fv (.int .i64 4) fun fw=>some (fw,b)) (some ((.bool false),b)))) (zaj 1 false (zab a) 6 fun fx=>pBin PP .neq Ac fx (.string ⟨#[]⟩) fun fy=>zaa fy fun fz=>br fz (zaj 1 false (zab a) 0 fun ga=>pBin PP .neq Aa ga (.int .i64 4) fun gb=>some (gb,b)) (some ((.bool false),b)))) (zaj 1 false (zab a) 6 fun gc=>pBin PP .neq Ac gc (.string ⟨#[]⟩) fun gd=>zaa gd fun ge=>br ge (zaj 1 false (zab a) 0 fun gf=>pBin PP .neq Aa gf (.int .i64 4) fun gg=>some (gg,b)) (some ((.bool false),b))))) (zaj 1 false (zab a) 5 fun gh=>pBin PP .neq Ab gh (.int .u64 0) fun gi=>zaa gi fun gj=>br gj (zaj 1 false (zab a) 0 fun gk=>pBin PP .neq Aa gk (.int .i64 3) fun gl=>zaa gl fun gm=>br gm (zaj 1 false (zab a) 0 fun gn=>pBin PP .neq Aa gn (.int .i64 31) fun go=>zaa go fun gp=>br gp (some ((.bool true),b)) (zaj 1 false (zab a) 6 fun gq=>pBin PP .neq Ac gq (.string ⟨#[]⟩) fun gr=>zaa gr fun gs=>br gs (zaj 1 false (zab a) 0 fun gt=>pBin PP .neq Aa gt (.int .i64 4) fun gu=>some (gu,b)) (some ((.bool false),b)))) (zaj 1 false (zab a) 6 fun gv=>pBin PP .neq Ac gv (.string ⟨#[]⟩) fun gw=>zaa gw fun gx=>br gx (zaj 1 false (zab a) 0 fun gy=>pBin PP .neq Aa gy (.int .i64 4) fun gz=>some (gz,b)) (some ((.bool false),b)))) (zaj 1 false (zab a) 6 fun ha=>pBin PP .neq Ac ha (.string ⟨#[]⟩) fun hb=>zaa hb fun hc=>br hc (zaj 1 false (zab a) 0 fun hd=>pBin PP .neq Aa hd (.int .i64 4) fun he=>some (he,b)) (some ((.bool false),b))))))
noncomputable def zdw(R:zaf)(g f:Value)(j:Hp):Option (Value×Hp):=zaj 1 false (zab f) 2 fun k=>zae R Al [g,k] j fun b l=>zaj 1 false (zab f) 3 fun m=>zae R Al [g,m] l fun d n=>zaj 1 false (zab f) 0 fun c=>zae R Av [c] n fun o e=>pBin PP .eql Aa o (.int .i64 0) fun p=>zaa p fun q=>br q (some ((.bool true),e)) (pBin PP .eql Aa c (.int .i64 5) fun r=>zaa r fun s=>br s (pBin PP .eql Aa b (.int .i64 0) fun t=>some (t,e)) (zaw (pBin PP .eql Aa c (.int .i64 6) fun u=>zaa u fun v=>br v (some (.next,[(.bool true)],e)) (pBin PP .eql Aa c (.int .i64 7) fun w=>zaa w fun x=>br x (some (.next,[(.bool true)],e)) (pBin PP .eql Aa c (.int .i64 8) fun y=>some (.next,[y],e)))) fun z i a=>zaG z (zaa (i.getD 0 undef) fun A=>br A (pBin PP .eql Aa b (.int .i64 0) fun B=>zaa B fun C=>br C (pBin PP .eql Aa d (.int .i64 0) fun D=>some (D,a)) (some ((.bool false),a))) (pBin PP .eql Aa c (.int .i64 9) fun E=>zaa E fun F=>br F (pBin PP .eql Aa b d fun G=>some (G,a)) (pBin PP .eql Aa c (.int .i64 14) fun H=>zaa H fun I=>br I (pBin PP .eql Aa b (.int .i64 0) fun J=>zaa J fun K=>br K (zaj 1 false (zab f) 4 fun L=>zae R Al [g,L] a fun M N=>pBin PP .eql Aa d M fun O=>some (O,N)) (some ((.bool false),a))) (pBin PP .eql Aa c (.int .i64 30) fun P=>zaa P fun Q=>br Q (pBin PP .gtr Aa b (.int .i64 0) fun S=>zaa S fun T=>br T (pBin PP .gtr Aa d (.int .i64 0) fun U=>some (U,a)) (some ((.bool false),a))) (zae R Av [c] a fun V h=>pBin PP .eql Aa V (.int .i64 1) fun W=>zaa W fun X=>br X (pBin PP .gtr Aa b (.int .i64 0) fun Y=>some (Y,h)) (pBin PP .gtr Aa b (.int .i64 0) fun Z=>zaa Z fun aa=>br aa (pBin PP .eql Aa b d fun ab=>some (ab,h)) (some ((.bool false),h)))))))) (fun ac=>zax ac 0 (pBin PP .gtr Aa b (.int .i64 0) fun ad=>zaa ad fun ae=>br ae (pBin PP .eql Aa b d fun af=>some (af,a)) (some ((.bool false),a))) (none)) (some ((i.headD undef),a))))
noncomputable def zee(R:zaf)(g a:Value)(j:Hp):Option (Value×Hp):=zaj 1 false (zab a) 2 fun k=>zae R Al [g,k] j fun d f=>zaj 1 false (zab a) 0 fun b=>zaw (pBin PP .eql Aa b (.int .i64 1) fun l=>zaa l fun m=>br m (some (.next,[(.bool true)],f)) (pBin PP .eql Aa b (.int .i64 2) fun n=>zaa n fun o=>br o (some (.next,[(.bool true)],f)) (pBin PP .geq Aa b (.int .i64 5) fun p=>zaa p fun q=>br q (pBin PP .leq Aa b (.int .i64 13) fun r=>some (.next,[r],f)) (some (.next,[(.bool false)],f))))) fun s h e=>zaG s (zaa (h.getD 0 undef) fun t=>br t (zaj 1 false (zab a) 1 fun u=>pBin PP .eql Aa u (.int .i64 0) fun v=>some (v,e)) (pBin PP .eql Aa b (.int .i64 3) fun w=>zaa w fun x=>br x (zaj 1 false (zab a) 1 fun y=>pBin PP .gtr Aa y (.int .i64 0) fun z=>zaa z fun A=>br A (zaj 1 false (zab a) 1 fun B=>zaj 1 false (zab a) 5 fun C=>zae R Ae [B,C] e fun D E=>zaj 1 false (zab a) 5 fun F=>pBin PP .eql Ab D F fun G=>some (G,E)) (some ((.bool false),e))) (pBin PP .eql Aa b (.int .i64 4) fun H=>zaa H fun I=>br I (some ((.bool true),e)) (pBin PP .eql Aa b (.int .i64 14) fun J=>zaa J fun K=>br K (zaj 1 false (zab a) 1 fun L=>zaj 1 false (zab a) 3 fun M=>zae R Al [g,M] e fun N O=>pBin PP .eql Aa L N fun P=>some (P,O)) (zaw (pBin PP .geq Aa b (.int .i64 25) fun Q=>zaa Q fun S=>br S (pBin PP .leq Aa b (.int .i64 29) fun T=>some (.next,[T],e)) (some (.next,[(.bool false)],e))) fun U i c=>zaG U (zaa (i.getD 0 undef) fun V=>br V (zaj 1 false (zab a) 1 fun W=>pBin PP .eql Aa W d fun X=>zaa X fun Y=>br Y (zaq .u64 d fun Z=>zae R AT [Z] c fun aa ab=>pBin PP .eql Aa aa (.int .i64 1) fun ac=>some (ac,ab)) (some ((.bool false),c))) (pBin PP .eql Aa b (.int .i64 30) fun ad=>zaa ad fun ae=>br ae (zaj 1 false (zab a) 1 fun af=>zaj 1 false (zab a) 3 fun ag=>zae R Al [g,ag] c fun ah ai=>pBin PP .add Aa d ah fun aj=>pBin PP .eql Aa af aj fun ak=>some (ak,ai)) (pBin PP .eql Aa b (.int .i64 31) fun al=>zaa al fun am=>br am (zaj 1 false (zab a) 1 fun ao=>pBin PP .geq Aa ao (.int .i64 1) fun ap=>zaa ap fun aq=>br aq (zaj 1 false (zab a) 1 fun ar=>pBin PP .leq Aa ar d fun au=>zaa au fun av=>br av (zaj 1 false (zab a) 5 fun aw=>zaj 1 false (zab a) 1 fun ax=>pBin PP .sub Aa d ax fun ay=>zaq .u64 ay fun az=>pBin PP .leq Ab aw az fun ba=>some (ba,c)) (some ((.bool false),c))) (some ((.bool false),c))) (pBin PP .eql Aa b (.int .i64 32) fun bb=>zaa bb fun bc=>br bc (zaj 1 false (zab a) 1 fun bd=>pBin PP .geq Aa bd d fun be=>some (be,c)) (pBin PP .eql Aa b (.int .i64 33) fun bf=>zaa bf fun bg=>br bg (zaj 1 false (zab a) 1 fun bh=>pBin PP .geq Aa bh d fun bi=>some (bi,c)) (zaj 1 false (zab a) 1 fun bj=>pBin PP .eql Aa bj d fun bk=>some (bk,c))))))) (fun bl=>zax bl 0 (zaj 1 false (zab a) 1 fun bm=>pBin PP .eql Aa bm d fun bn=>some (bn,c)) (none)) (some ((i.headD undef),c))))))) (fun bo=>zax bo 0 (zaj 1 false (zab a) 1 fun bp=>pBin PP .eql Aa bp d fun bq=>some (bq,e)) (none)) (some ((h.headD undef),e))
noncomputable def ziz(R:zaf)(d a:Value)(b:Hp):Option (Value×Hp):=zdu PP .eql AA d fun e=>zaa e fun f=>br f (some ((.bool false),b)) (zaw (zdu PP .eql BT a fun g=>zaa g fun h=>br h (none) (some (.next,[],b))) fun i j c=>zaG i (zae R B7 [a] c fun k l=>zaN 3 [.pointer none,.pointer none,.int .u64 0] 0 k fun m=>zaj 3 true m 0 fun n=>zae R B8 [n] l fun r s=>zaw (none) fun o p q=>zaG o (none) (fun t=>none) (some ((p.headD undef),q))) (fun u=>none) (some ((j.headD undef),c)))
noncomputable def zdQ(R:zaf)(a b c d:Value)(e:Hp):Option (Value×Hp):=zd0 PP orc R Bl Go.Proofs.Tryz.f101 [a,b,c,d] e
noncomputable def zgg(R:zaf)(a:Value)(b:Hp):Option (Value×Hp):=zd0 PP orc R AL Go.Proofs.Tryz.f102 [a] b
noncomputable def zeC(R:zaf)(a:Value)(b:Hp):Option (Value×Hp):=zd0 PP orc R Bp Go.Proofs.Tryz.f103 [a] b
noncomputable def zhb(R:zaf)(a:Value)(b:Hp):Option (Value×Hp):=pBin PP .geq Aa a (.int .i64 1) fun c=>zaa c fun d=>br d (pBin PP .leq Aa a (.int .i64 64) fun e=>some (e,b)) (some ((.bool false),b))
noncomputable def zgf(R:zaf)(a d:Value)(e:Hp):Option (Value×Hp):=zae R Aq [a] e fun f b=>pUn .not f fun g=>zaa g fun h=>br h (some ((.int .i64 0),b)) (pBin PP .sub Aa (.int .i64 64) a fun i=>zaq .u64 i fun c=>pBin PP .shl Ab d c fun j=>zaq .i64 j fun k=>pBin PP .shr BQ k c fun l=>some (l,b))
noncomputable def zge(R:zaf)(a:Value)(b:Hp):Option (Value×Hp):=pBin PP .geq Aa a (.int .i64 25) fun c=>zaa c fun d=>br d (pBin PP .leq Aa a (.int .i64 29) fun e=>some (e,b)) (some ((.bool false),b))
noncomputable def zeE(R:zaf)(a:Value)(b:Hp):Option (Value×Hp):=zae R By [a] b fun c d=>some (c,d)
noncomputable def zg9(R:zaf)(e a b c:Value)(d:Hp):Option (Value×Hp):=pBin PP .eql Aa e (.int .i64 25) fun g=>zaa g fun h=>br h (zaq .u64 c fun i=>pBin PP .shl Ab b i fun j=>zae R Ae [a,j] d fun k l=>some (k,l)) (pBin PP .eql Aa e (.int .i64 26) fun m=>zaa m fun n=>br n (zaq .u64 c fun o=>pBin PP .shr Ab b o fun p=>some (p,d)) (pBin PP .eql Aa e (.int .i64 27) fun q=>zaa q fun r=>br r (zae R AN [a,b] d fun s t=>zaq .u64 c fun u=>pBin PP .shr BQ s u fun v=>zaq .u64 v fun w=>zae R Ae [a,w] t fun x y=>some (x,y)) (pBin PP .eql Aa e (.int .i64 29) fun z=>zaa z fun A=>br A (pBin PP .sub Aa a c fun B=>pBin PP .rem Aa B a fun f=>zaq .u64 f fun C=>pBin PP .shl Ab b C fun D=>pBin PP .sub Aa a f fun E=>zaq .u64 E fun F=>pBin PP .shr Ab b F fun G=>pBin PP .or Ab D G fun H=>zae R Ae [a,H] d fun I J=>some (I,J)) (zaq .u64 c fun K=>pBin PP .shl Ab b K fun L=>pBin PP .sub Aa a c fun M=>zaq .u64 M fun N=>pBin PP .shr Ab b N fun O=>pBin PP .or Ab L O fun P=>zae R Ae [a,P] d fun Q S=>some (Q,S)))))
noncomputable def zeT(R:zaf)(d a:Value)(b:Hp):Option (Value×Hp):=pLen .str a b fun g=>pBin PP .eql Aa g (.int .i64 0) fun h=>zaa h fun i=>br i (zae R Cb [d] b fun j k=>pBin PP .add Aa j (.int .i64 1) fun l=>some (l,k)) (pLen .str a b fun m=>pBin PP .eql Aa m (.int .i64 1) fun n=>zaa n fun o=>br o (zcs a (.int .i64 0) fun p=>zae R AX [d,p] b fun q r=>some (q,r)) (zaw (zau (fun c s=>zae R A1 [(c.getD 0 undef),a] s fun f e=>pBin PP .eql Aa f (.int .i64 (-1)) fun t=>zaa t fun u=>br u (some (.ret,[(c.getD 1 undef)],e)) (pBin PP .add Aa (c.getD 1 undef) (.int .i64 1) fun v=>pLen .str a e fun w=>pBin PP .add Aa f w fun x=>zbc (c.getD 0 undef) (some x) none fun y=>some (.next,[y,v],e))) [d,(.int .i64 0)] b) fun z A B=>zaG z none (fun C=>zax C 0 (none) (none)) (some ((A.headD undef),B))))
noncomputable def zeS(R:zaf)(a b:Value)(c:Hp):Option (Value×Hp):=zae R BJ [a,b] c fun d e=>some (d,e)
noncomputable def zdx(R:zaf)(b c:Value)(d:Hp):Option (Value×Hp):=zae R Bf [b,c] d fun a e=>zac a 0 fun f=>zac a 1 fun g=>some ((.tuple #[f,g]),e)
noncomputable def zdy(R:zaf)(a b c:Value)(h:Hp):Option (Value×Hp):=zae R AZ [a,b,c] h fun d e=>zac d 0 fun f=>zac d 1 fun g=>zdu PP .neq AA g fun i=>zaa i fun j=>br j (zae R A0 [(.string ⟨#[80,97,114,115,101,85,105,110,116]⟩),a,b,c,g] e fun k l=>some ((.tuple #[f,k]),l)) (some ((.tuple #[f,.nilIface]),e))
noncomputable def zdR(R:zaf)(a:Value)(g:Hp):Option (Value×Hp):=pBin PP .shr Ab a (.int .u64 1) fun h=>pBin PP .and Ab h (.int .u64 6148914691236517205) fun i=>pBin PP .and Ab a (.int .u64 6148914691236517205) fun j=>pBin PP .add Ab i j fun b=>pBin PP .shr Ab b (.int .u64 2) fun k=>pBin PP .and Ab k (.int .u64 3689348814741910323) fun l=>pBin PP .and Ab b (.int .u64 3689348814741910323) fun m=>pBin PP .add Ab l m fun c=>pBin PP .shr Ab c (.int .u64 4) fun n=>pBin PP .add Ab n c fun o=>pBin PP .and Ab o (.int .u64 1085102592571150095) fun d=>pBin PP .shr Ab d (.int .u64 8) fun p=>pBin PP .add Ab d p fun e=>pBin PP .shr Ab e (.int .u64 16) fun q=>pBin PP .add Ab e q fun f=>pBin PP .shr Ab f (.int .u64 32) fun r=>pBin PP .add Ab f r fun s=>zaq .i64 s fun t=>pBin PP .and Aa t (.int .i64 127) fun u=>some (u,g)
noncomputable def zb3(R:zaf)(a f:Value)(l:Hp):Option (Value×Hp):=pLen .str f l fun h=>zaw (zaw (pBin PP .eql Aa h (.int .i64 0) fun D=>zaa D fun E=>br E (some (.next,[(.bool true)],l)) (pBin PP .eql Ac f a fun F=>some (.next,[F],l))) fun G p b=>zaG G (zaa (p.getD 0 undef) fun H=>br H (some (.ret,[(.int .i64 0)],b)) (pBin PP .eql Aa h (.int .i64 1) fun I=>zaa I fun J=>br J (zcs f (.int .i64 0) fun K=>zae R Bg [a,K] b fun L M=>some (.ret,[L],M)) (pLen .str a b fun N=>pBin PP .geq Aa h N fun O=>zaa O fun P=>br P (some (.ret,[(.int .i64 (-1))],b)) (zak 1 false b (.pointer (some ⟨BS,0,none⟩)) fun Q=>pBin PP .leq Aa h Q fun S=>zaa S fun T=>br T (pLen .str a b fun U=>pBin PP .leq Aa U (.int .i64 64) fun V=>zaa V fun W=>br W (zae R B0 [a,f] b fun X Y=>some (.ret,[X],Y)) (some (.next,[],b))) (some (.next,[],b)))))) (fun q=>zax q 0 (some (.next,[],b)) (some (.exit q,[],b))) (some (.ret,[(p.headD undef)],b))) fun Z aa m=>zaG Z (zcs f (.int .i64 0) fun r=>zcs f (.int .i64 1) fun ab=>pLen .str a m fun ac=>pBin PP .sub Aa ac h fun ad=>pBin PP .add Aa ad (.int .i64 1) fun n=>zaw (zau (fun c o=>pBin PP .lss Aa (c.getD 0 undef) n fun ae=>zaa ae fun af=>br af (zaw (zcs a (c.getD 0 undef) fun ag=>pBin PP .neq Ah ag r fun ah=>zaa ah fun ai=>br ai (pBin PP .add Aa (c.getD 0 undef) (.int .i64 1) fun aj=>zbc a (some aj) (some n) fun ak=>zae R Bg [ak,r] o fun s t=>pBin PP .lss Aa s (.int .i64 0) fun al=>zaa al fun am=>br am (some (.ret,[(.int .i64 (-1))],t)) (pBin PP .add Aa s (.int .i64 1) fun ao=>pBin PP .add Aa (c.getD 0 undef) ao fun ap=>some (.next,[ap],t))) (some (.next,[(c.getD 0 undef)],o))) fun aq e j=>zaG aq (zaw (pBin PP .add Aa (e.getD 0 undef) (.int .i64 1) fun ar=>zcs a ar fun au=>pBin PP .eql Ah au ab fun av=>zaa av fun aw=>br aw (pBin PP .add Aa (e.getD 0 undef) h fun ax=>zbc a (some (e.getD 0 undef)) (some ax) fun ay=>pBin PP .eql Ac ay f fun az=>zaa az fun ba=>br ba (some (.ret,[(e.getD 0 undef)],j)) (some (.next,[],j))) (some (.next,[],j))) fun bb bc k=>zaG bb (pBin PP .add Aa (e.getD 0 undef) (.int .i64 1) fun d=>pBin PP .add Aa (c.getD 1 undef) (.int .i64 1) fun i=>zaw (zak 1 false k (.pointer (some ⟨BS,0,none⟩)) fun bd=>pBin PP .leq Aa h bd fun be=>zaa be fun bf=>br bf (zae R B5 [d] k fun bg bh=>pBin PP .gtr Aa i bg fun bi=>some (.next,[bi],bh)) (some (.next,[(.bool false)],k))) fun bj u g=>zaG bj (zaa (u.getD 0 undef) fun bk=>br bk (zbc a (some d) none fun bl=>zae R B0 [bl,f] g fun v w=>pBin PP .geq Aa v (.int .i64 0) fun bm=>zaa bm fun bn=>br bn (pBin PP .add Aa v d fun bo=>some (.ret,[bo],w)) (some (.ret,[(.int .i64 (-1))],w))) (zak 1 false g (.pointer (some ⟨BS,0,none⟩)) fun bp=>pBin PP .gtr Aa h bp fun bq=>zaa bq fun bs=>br bs (pBin PP .shr Aa d (.int .u64 4) fun bt=>pBin PP .add Aa (.int .i64 4) bt fun bu=>pBin PP .geq Aa i bu fun bv=>zaa bv fun bw=>br bw (pBin PP .lss Aa d n fun bx=>zaa bx fun bz=>br bz (zbc a (some d) none fun ca=>zae R B6 [ca,f] g fun x y=>pBin PP .lss Aa x (.int .i64 0) fun cb=>zaa cb fun cc=>br cc (some (.ret,[(.int .i64 (-1))],y)) (pBin PP .add Aa d x fun cd=>some (.ret,[cd],y))) (some (.next,[d,i],g))) (some (.next,[d,i],g))) (some (.next,[d,i],g)))) (fun z=>zax z 2 (some (.next,[d,i],g)) (some (.exit z,[d,i],g))) (some (.ret,[(u.headD undef)],g))) (fun A=>zax A 2 (some (.next,[(e.getD 0 undef),(c.getD 1 undef)],k)) (some (.exit A,[(e.getD 0 undef),(c.getD 1 undef)],k))) (some (.ret,[(bc.headD undef)],k))) (fun B=>zax B 2 (some (.next,[(e.getD 0 undef),(c.getD 1 undef)],j)) (some (.exit B,[(e.getD 0 undef),(c.getD 1 undef)],j))) (some (.ret,[(e.headD undef)],j))) (some (.exit 1,[(c.getD 0 undef),(c.getD 1 undef)],o))) [(.int .i64 0),(.int .i64 0)] m) fun ce cf C=>zaG ce none (fun cg=>zax cg 1 (some ((.int .i64 (-1)),C)) (none)) (some ((cf.headD undef),C))) (fun ch=>none) (some ((aa.headD undef),m))
noncomputable def zbI(R:zaf)(a c:Value)(d:Hp):Option (Value×Hp):=zae R BH [a,c] d fun e b=>pUn .not e fun f=>zaa f fun g=>br g (some ((.tuple #[a,(.bool false)]),b)) (pLen .str c b fun h=>zbc a (some h) none fun i=>some ((.tuple #[i,(.bool true)]),b))
noncomputable def zb4(R:zaf)(a b c:Value)(d:Hp):Option (Value×Hp):=zd0 PP orc R AZ Go.Proofs.Tryz.f160 [a,b,c] d
noncomputable def zbG(R:zaf)(a b:Value)(c:Hp):Option (Value×Hp):=zae R AY [a,b] c fun d e=>some (d,e)
noncomputable def zbH(R:zaf)(c b:Value)(a:Hp):Option (Value×Hp):=pLen .str c a fun d=>pLen .str b a fun e=>pBin PP .geq Aa d e fun f=>zaa f fun g=>br g (pLen .str b a fun h=>zbc c none (some h) fun i=>pBin PP .eql Ac i b fun j=>some (j,a)) (some ((.bool false),a))
noncomputable def zcl(R:zaf)(a:Value)(b:Hp):Option (Value×Hp):=pBin PP .or Ah a (.int .u8 32) fun c=>some (c,b)
theorem zdt(E:ET)(h:E BB=none)(a b c:Value)(d:Hp):run PP orc E BB [a,b,c] d=zb7 (run PP orc E) a b c d:=by refine(zaB Proofs.Tryz.func8 ?_ ?_ h _ _).trans ?_<;>kernel_rfl
theorem zfz(E:ET)(h:E BC=none)(a:Hp):run PP orc E BC [] a=zdA (run PP orc E)  a:=by refine(zaB Proofs.Tryz.func12 ?_ ?_ h _ _).trans ?_<;>kernel_rfl
theorem zkz(E:ET)(h:E Au=none)(a b c:Value)(d:Hp):run PP orc E Au [a,b,c] d=zgd (run PP orc E) a b c d:=by refine(zaB Proofs.Tryz.func13 ?_ ?_ h _ _).trans ?_<;>kernel_rfl
theorem zgI(E:ET)(h:E Aj=none)(a:Value)(b:Hp):run PP orc E Aj [a] b=zgM (run PP orc E) a b:=by refine(zaB Proofs.Tryz.func15 ?_ ?_ h _ _).trans ?_<;>kernel_rfl
theorem zea(E:ET)(h:E AO=none)(a b:Value)(c:Hp):run PP orc E AO [a,b] c=zcm (run PP orc E) a b c:=by refine(zaB Proofs.Tryz.func16 ?_ ?_ h _ _).trans ?_<;>kernel_rfl
theorem zlA(E:ET)(h:E Ba=none)(a b c:Value)(d:Hp):run PP orc E Ba [a,b,c] d=zg7 (run PP orc E) a b c d:=by refine(zaB Proofs.Tryz.func18 ?_ ?_ h _ _).trans ?_<;>kernel_rfl
theorem zfy(E:ET)(h:E A9=none)(a:Value)(b:Hp):run PP orc E A9 [a] b=zdz (run PP orc E) a b:=by refine(zaB Proofs.Tryz.func19 ?_ ?_ h _ _).trans ?_<;>kernel_rfl
theorem zmP(E:ET)(h:E Bb=none)(a b:Value)(c:Hp):run PP orc E Bb [a,b] c=zix (run PP orc E) a b c:=by refine(zaB Proofs.Tryz.func20 ?_ ?_ h _ _).trans ?_<;>kernel_rfl
theorem zfd(E:ET)(h:E A8=none)(a b:Value)(c:Hp):run PP orc E A8 [a,b] c=zdf (run PP orc E) a b c:=by refine(zaB Proofs.Tryz.func21 ?_ ?_ h _ _).trans ?_<;>kernel_rfl
theorem zmQ(E:ET)(h:E AV=none)(a b:Value)(c:Hp):run PP orc E AV [a,b] c=ziy (run PP orc E) a b c:=by refine(zaB Proofs.Tryz.func24 ?_ ?_ h _ _).trans ?_<;>kernel_rfl
theorem zoW(E:ET)(h:E Bn=none)(a:Value)(b:Hp):run PP orc E Bn [a] b=zjL (run PP orc E) a b:=by refine(zaB Proofs.Tryz.func26 ?_ ?_ h _ _).trans ?_<;>kernel_rfl
theorem zhl(E:ET)(h:E Bo=none)(a b c:Value)(d:Hp):run PP orc E Bo [a,b,c] d=zeD (run PP orc E) a b c d:=by refine(zaB Proofs.Tryz.func27 ?_ ?_ h _ _).trans ?_<;>kernel_rfl
theorem zoY(E:ET)(h:E Ay=none)(a b c d:Value)(e:Hp):run PP orc E Ay [a,b,c,d] e=zjN (run PP orc E) a b c d e:=by refine(zaB Proofs.Tryz.func29 ?_ ?_ h _ _).trans ?_<;>kernel_rfl
theorem zen(E:ET)(h:E AU=none)(a b:Value)(c:Hp):run PP orc E AU [a,b] c=zcx (run PP orc E) a b c:=by refine(zaB Proofs.Tryz.func30 ?_ ?_ h _ _).trans ?_<;>kernel_rfl
theorem zgG(E:ET)(h:E Ak=none)(a b:Value)(c:Hp):run PP orc E Ak [a,b] c=zef (run PP orc E) a b c:=by refine(zaB Proofs.Tryz.func31 ?_ ?_ h _ _).trans ?_<;>kernel_rfl
theorem zmL(E:ET)(h:E AP=none)(a b:Value)(c:Hp):run PP orc E AP [a,b] c=zit (run PP orc E) a b c:=by refine(zaB Proofs.Tryz.func35 ?_ ?_ h _ _).trans ?_<;>kernel_rfl
theorem zdH(E:ET)(h:E At=none)(a b:Value)(c:Hp):run PP orc E At [a,b] c=zdP (run PP orc E) a b c:=by refine(zaB Proofs.Tryz.func38 ?_ ?_ h _ _).trans ?_<;>kernel_rfl
theorem zmM(E:ET)(h:E Be=none)(a:Value)(b:Hp):run PP orc E Be [a] b=ziu (run PP orc E) a b:=by refine(zaB Proofs.Tryz.func39 ?_ ?_ h _ _).trans ?_<;>kernel_rfl
theorem zmO(E:ET)(h:E BE=none)(a b c d e f:Value)(g:Hp):run PP orc E BE [a,b,c,d,e,f] g=ziw (run PP orc E) a b c d e f g:=by refine(zaB Proofs.Tryz.func40 ?_ ?_ h _ _).trans ?_<;>kernel_rfl
theorem zmN(E:ET)(h:E BG=none)(a b:Value)(c:Hp):run PP orc E BG [a,b] c=ziv (run PP orc E) a b c:=by refine(zaB Proofs.Tryz.func47 ?_ ?_ h _ _).trans ?_<;>kernel_rfl
theorem zgH(E:ET)(h:E Ar=none)(a b:Value)(c:Hp):run PP orc E Ar [a,b] c=zeg (run PP orc E) a b c:=by refine(zaB Proofs.Tryz.func48 ?_ ?_ h _ _).trans ?_<;>kernel_rfl
theorem zja(E:ET)(h:E Al=none)(a b:Value)(c:Hp):run PP orc E Al [a,b] c=zfk (run PP orc E) a b c:=by refine(zaB Proofs.Tryz.func49 ?_ ?_ h _ _).trans ?_<;>kernel_rfl
theorem zh1(E:ET)(h:E AH=none)(a b:Value)(c:Hp):run PP orc E AH [a,b] c=zeQ (run PP orc E) a b c:=by refine(zaB Proofs.Tryz.func50 ?_ ?_ h _ _).trans ?_<;>kernel_rfl
theorem zlz(E:ET)(h:E Bc=none)(a:Value)(b:Hp):run PP orc E Bc [a] b=zg6 (run PP orc E) a b:=by refine(zaB Proofs.Tryz.func51 ?_ ?_ h _ _).trans ?_<;>kernel_rfl
theorem zkx(E:ET)(h:E AW=none)(a b c d e:Value)(f:Hp):run PP orc E AW [a,b,c,d,e] f=zgb (run PP orc E) a b c d e f:=by refine(zaB Proofs.Tryz.func52 ?_ ?_ h _ _).trans ?_<;>kernel_rfl
theorem zlB(E:ET)(h:E AF=none)(a b:Value)(c:Hp):run PP orc E AF [a,b] c=zg8 (run PP orc E) a b c:=by refine(zaB Proofs.Tryz.func53 ?_ ?_ h _ _).trans ?_<;>kernel_rfl
theorem zky(E:ET)(h:E BF=none)(a:Value)(b:Hp):run PP orc E BF [a] b=zgc (run PP orc E) a b:=by refine(zaB Proofs.Tryz.func54 ?_ ?_ h _ _).trans ?_<;>kernel_rfl
theorem zmT(E:ET)(h:E AS=none)(a:Value)(b:Hp):run PP orc E AS [a] b=ziB (run PP orc E) a b:=by refine(zaB Proofs.Tryz.func55 ?_ ?_ h _ _).trans ?_<;>kernel_rfl
theorem zly(E:ET)(h:E BN=none)(a:Hp):run PP orc E BN [] a=zg5 (run PP orc E)  a:=by refine(zaB Proofs.Tryz.func60 ?_ ?_ h _ _).trans ?_<;>kernel_rfl
theorem zlx(E:ET)(h:E Av=none)(a:Value)(b:Hp):run PP orc E Av [a] b=zg4 (run PP orc E) a b:=by refine(zaB Proofs.Tryz.func62 ?_ ?_ h _ _).trans ?_<;>kernel_rfl
theorem zh2(E:ET)(h:E Bk=none)(a b:Value)(c:Hp):run PP orc E Bk [a,b] c=zeR (run PP orc E) a b c:=by refine(zaB Proofs.Tryz.func65 ?_ ?_ h _ _).trans ?_<;>kernel_rfl
theorem zfc(E:ET)(h:E AG=none)(a b:Value)(c:Hp):run PP orc E AG [a,b] c=zde (run PP orc E) a b c:=by refine(zaB Proofs.Tryz.func67 ?_ ?_ h _ _).trans ?_<;>kernel_rfl
theorem zkw(E:ET)(h:E Az=none)(a:Value)(b:Hp):run PP orc E Az [a] b=zga (run PP orc E) a b:=by refine(zaB Proofs.Tryz.func68 ?_ ?_ h _ _).trans ?_<;>kernel_rfl
theorem zdG(E:ET)(h:E Ap=none)(a:Value)(b:Hp):run PP orc E Ap [a] b=zcv (run PP orc E) a b:=by refine(zaB Proofs.Tryz.func69 ?_ ?_ h _ _).trans ?_<;>kernel_rfl
theorem zfY(E:ET)(h:E Bq=none)(a:Value)(b:Hp):run PP orc E Bq [a] b=zdN (run PP orc E) a b:=by refine(zaB Proofs.Tryz.func70 ?_ ?_ h _ _).trans ?_<;>kernel_rfl
theorem zfb(E:ET)(h:E An=none)(a:Value)(b:Hp):run PP orc E An [a] b=zdd (run PP orc E) a b:=by refine(zaB Proofs.Tryz.func71 ?_ ?_ h _ _).trans ?_<;>kernel_rfl
theorem zfZ(E:ET)(h:E AI=none)(a:Value)(b:Hp):run PP orc E AI [a] b=zdO (run PP orc E) a b:=by refine(zaB Proofs.Tryz.func72 ?_ ?_ h _ _).trans ?_<;>kernel_rfl
theorem zmS(E:ET)(h:E Ae=none)(a b:Value)(c:Hp):run PP orc E Ae [a,b] c=ziA (run PP orc E) a b c:=by refine(zaB Proofs.Tryz.func80 ?_ ?_ h _ _).trans ?_<;>kernel_rfl
theorem zoX(E:ET)(h:E Bd=none)(a:Value)(b:Hp):run PP orc E Bd [a] b=zjM (run PP orc E) a b:=by refine(zaB Proofs.Tryz.func81 ?_ ?_ h _ _).trans ?_<;>kernel_rfl
theorem zo0(E:ET)(h:E Bv=none)(a b c d:Value)(e:Hp):run PP orc E Bv [a,b,c,d] e=zjP (run PP orc E) a b c d e:=by refine(zaB Proofs.Tryz.func82 ?_ ?_ h _ _).trans ?_<;>kernel_rfl
theorem r_bits_Un(E:ET)(h:E BA=none)(a b c:Value)(d:Hp):run PP orc E BA [a,b,c] d=zl5 (run PP orc E) a b c d:=by refine(zaB Proofs.Tryz.func83 ?_ ?_ h _ _).trans ?_<;>kernel_rfl
theorem zo2(E:ET)(h:E Bs=none)(a b c d:Value)(e:Hp):run PP orc E Bs [a,b,c,d] e=zjR (run PP orc E) a b c d e:=by refine(zaB Proofs.Tryz.func84 ?_ ?_ h _ _).trans ?_<;>kernel_rfl
theorem zo1(E:ET)(h:E Bu=none)(a b c d:Value)(e:Hp):run PP orc E Bu [a,b,c,d] e=zjQ (run PP orc E) a b c d e:=by refine(zaB Proofs.Tryz.func85 ?_ ?_ h _ _).trans ?_<;>kernel_rfl
theorem zlD(E:ET)(h:E Bz=none)(a b c d:Value)(e:Hp):run PP orc E Bz [a,b,c,d] e=zha (run PP orc E) a b c d e:=by refine(zaB Proofs.Tryz.func86 ?_ ?_ h _ _).trans ?_<;>kernel_rfl
theorem zoZ(E:ET)(h:E Bw=none)(a b c d:Value)(e:Hp):run PP orc E Bw [a,b,c,d] e=zjO (run PP orc E) a b c d e:=by refine(zaB Proofs.Tryz.func87 ?_ ?_ h _ _).trans ?_<;>kernel_rfl
theorem zlw(E:ET)(h:E BO=none)(a:Value)(b:Hp):run PP orc E BO [a] b=zg3 (run PP orc E) a b:=by refine(zaB Proofs.Tryz.func93 ?_ ?_ h _ _).trans ?_<;>kernel_rfl
theorem zfv(E:ET)(h:E BL=none)(a b:Value)(c:Hp):run PP orc E BL [a,b] c=zdw (run PP orc E) a b c:=by refine(zaB Proofs.Tryz.func94 ?_ ?_ h _ _).trans ?_<;>kernel_rfl
theorem zgF(E:ET)(h:E BM=none)(a b:Value)(c:Hp):run PP orc E BM [a,b] c=zee (run PP orc E) a b c:=by refine(zaB Proofs.Tryz.func95 ?_ ?_ h _ _).trans ?_<;>kernel_rfl
theorem zmR(E:ET)(h:E BD=none)(a b:Value)(c:Hp):run PP orc E BD [a,b] c=ziz (run PP orc E) a b c:=by refine(zaB Proofs.Tryz.func96 ?_ ?_ h _ _).trans ?_<;>kernel_rfl
theorem zf0(E:ET)(h:E Bl=none)(a b c d:Value)(e:Hp):run PP orc E Bl [a,b,c,d] e=zdQ (run PP orc E) a b c d e:=by refine(zaB Proofs.Tryz.func101 ?_ ?_ h _ _).trans ?_<;>kernel_rfl
theorem zkC(E:ET)(h:E AL=none)(a:Value)(b:Hp):run PP orc E AL [a] b=zgg (run PP orc E) a b:=by refine(zaB Proofs.Tryz.func102 ?_ ?_ h _ _).trans ?_<;>kernel_rfl
theorem zhk(E:ET)(h:E Bp=none)(a:Value)(b:Hp):run PP orc E Bp [a] b=zeC (run PP orc E) a b:=by refine(zaB Proofs.Tryz.func103 ?_ ?_ h _ _).trans ?_<;>kernel_rfl
theorem zlE(E:ET)(h:E Aq=none)(a:Value)(b:Hp):run PP orc E Aq [a] b=zhb (run PP orc E) a b:=by refine(zaB Proofs.Tryz.func114 ?_ ?_ h _ _).trans ?_<;>kernel_rfl
theorem zkB(E:ET)(h:E AN=none)(a b:Value)(c:Hp):run PP orc E AN [a,b] c=zgf (run PP orc E) a b c:=by refine(zaB Proofs.Tryz.func115 ?_ ?_ h _ _).trans ?_<;>kernel_rfl
theorem zkA(E:ET)(h:E A7=none)(a:Value)(b:Hp):run PP orc E A7 [a] b=zge (run PP orc E) a b:=by refine(zaB Proofs.Tryz.func116 ?_ ?_ h _ _).trans ?_<;>kernel_rfl
theorem zhm(E:ET)(h:E AT=none)(a:Value)(b:Hp):run PP orc E AT [a] b=zeE (run PP orc E) a b:=by refine(zaB Proofs.Tryz.func117 ?_ ?_ h _ _).trans ?_<;>kernel_rfl
theorem zlC(E:ET)(h:E A6=none)(a b c d:Value)(e:Hp):run PP orc E A6 [a,b,c,d] e=zg9 (run PP orc E) a b c d e:=by refine(zaB Proofs.Tryz.func118 ?_ ?_ h _ _).trans ?_<;>kernel_rfl
theorem zh4(E:ET)(h:E Bi=none)(a b:Value)(c:Hp):run PP orc E Bi [a,b] c=zeT (run PP orc E) a b c:=by refine(zaB Proofs.Tryz.func135 ?_ ?_ h _ _).trans ?_<;>kernel_rfl
theorem zh3(E:ET)(h:E A1=none)(a b:Value)(c:Hp):run PP orc E A1 [a,b] c=zeS (run PP orc E) a b c:=by refine(zaB Proofs.Tryz.func136 ?_ ?_ h _ _).trans ?_<;>kernel_rfl
theorem zfw(E:ET)(h:E BK=none)(a b:Value)(c:Hp):run PP orc E BK [a,b] c=zdx (run PP orc E) a b c:=by refine(zaB Proofs.Tryz.func137 ?_ ?_ h _ _).trans ?_<;>kernel_rfl
theorem zfx(E:ET)(h:E Bh=none)(a b c:Value)(d:Hp):run PP orc E Bh [a,b,c] d=zdy (run PP orc E) a b c d:=by refine(zaB Proofs.Tryz.func138 ?_ ?_ h _ _).trans ?_<;>kernel_rfl
theorem zf1(E:ET)(h:E By=none)(a:Value)(b:Hp):run PP orc E By [a] b=zdR (run PP orc E) a b:=by refine(zaB Proofs.Tryz.func143 ?_ ?_ h _ _).trans ?_<;>kernel_rfl
theorem zdj(E:ET)(h:E BJ=none)(a b:Value)(c:Hp):run PP orc E BJ [a,b] c=zb3 (run PP orc E) a b c:=by refine(zaB Proofs.Tryz.func158 ?_ ?_ h _ _).trans ?_<;>kernel_rfl
theorem zcG(E:ET)(h:E Bf=none)(a b:Value)(c:Hp):run PP orc E Bf [a,b] c=zbI (run PP orc E) a b c:=by refine(zaB Proofs.Tryz.func159 ?_ ?_ h _ _).trans ?_<;>kernel_rfl
theorem zb2(E:ET)(h:E AZ=none)(a b c:Value)(d:Hp):run PP orc E AZ [a,b,c] d=zb4 (run PP orc E) a b c d:=by refine(zaB Proofs.Tryz.func160 ?_ ?_ h _ _).trans ?_<;>kernel_rfl
theorem zcE(E:ET)(h:E Bg=none)(a b:Value)(c:Hp):run PP orc E Bg [a,b] c=zbG (run PP orc E) a b c:=by refine(zaB Proofs.Tryz.func171 ?_ ?_ h _ _).trans ?_<;>kernel_rfl
theorem zcF(E:ET)(h:E BH=none)(a b:Value)(c:Hp):run PP orc E BH [a,b] c=zbH (run PP orc E) a b c:=by refine(zaB Proofs.Tryz.func175 ?_ ?_ h _ _).trans ?_<;>kernel_rfl
theorem zd9(E:ET)(h:E As=none)(a:Value)(b:Hp):run PP orc E As [a] b=zcl (run PP orc E) a b:=by refine(zaB Proofs.Tryz.func176 ?_ ?_ h _ _).trans ?_<;>kernel_rfl
end Go.AM
namespace Go.AM
open List Go
def ccB(i:Nat)(H:Hp):Option AObj→Option (Value×Hp)
 |some (.cells [.pointer none,v] true)=>if H.ty i=some AQ then some (.tuple #[],H.set i (some (.cells [.pointer (some ⟨i,0,none⟩),v] true))) else none
 |some (.cells [.pointer (some ⟨j,0,none⟩),v] true)=>if j=i∧H.ty i=some AQ then some (.tuple #[],H) else none
 |_=>none
def extCC(l:List Value)(H:Hp):Option (Value×Hp):=
 match l with
 |[.pointer (some ⟨i,0,none⟩)]=>ccB i H (H.get i)
 |_=>none
def zoH:List Value→Option (List UInt8)
 |[]=>some []
 |.int .u8 (.ofNat n)::r=>if n<256 then (match zoH r with
  |some l=>some (UInt8.ofNat n::l)
  |none=>none) else none
 |_=>none
def strB2(i j n:Nat)(H:Hp):Option AObj→Option (Value×Hp)
 |some (.cells cs true)=>if H.ty i=some AQ∧H.ty j=some Ah∧0<n∧n≤cs.length∧n≤2^60 then (match zoH (cs.take n) with
  |some l=>some (.string ⟨l.toArray⟩,H.set j (some (.cells cs false)))
  |none=>none) else none
 |_=>none
def strB(i:Nat)(H:Hp):Option AObj→Option (Value×Hp)
 |some (.cells [_,.slice none 0 0] _)=>if H.ty i=some AQ then some (.string ⟨#[]⟩,H) else none
 |some (.cells [_,.slice (some ⟨j,0,some 1⟩) n c] _)=>strB2 i j n H (H.get j)
 |_=>none
def extStr(l:List Value)(H:Hp):Option (Value×Hp):=
 match l with
 |[.pointer (some ⟨i,0,none⟩)]=>strB i H (H.get i)
 |_=>none
theorem zhh:∀(cs:List Value) (l:List UInt8),zoH cs=some l→cs=l.map fun b=>Value.int .u8 (b.toNat:Int)
 |[],l,h=>by cases h;rfl
 |v::r,l,h=>by
  unfold zoH at h;split at h
  ·rename_i q;cases q
  ·rename_i n r' q;cases q;split at h
   ·rename_i hn;split at h
    ·rename_i l' hl;cases h;rw[map_cons,←zhh _ _ hl];have:(UInt8.ofNat n).toNat=n:=by simp[UInt8.toNat_ofNat];omega
     rw[this];rfl
    ·cases h
   ·cases h
  ·cases h
theorem LRel.single{β:Bt}{a:Value}{l:List Value}(h:LRel β [a] l):∃a',l=[a']∧VRel β a a':=by
 obtain⟨hl,hv⟩:=h
 match l,hl with
 |[x],_=>exact⟨x,rfl,hv 0 _ _ rfl rfl⟩
theorem znM{w:World}{b:Nat}{arr:Array Value}{e:TypeId}{fz:Nat×Nat}(h:w.heap[b]?=some (.cells arr e fz)):w.shape? b=some (e,arr.size):=by unfold World.shape?;rw[h]
theorem zmd(w:World)(b n:Nat):(w.freeze ⟨b,0,none⟩ n).heap.size=w.heap.size∧(∀k,k≠b→(w.freeze ⟨b,0,none⟩ n).heap[k]?=w.heap[k]?) ∧
  (∀arr e fz,w.heap[b]?=some (.cells arr e fz)→∃fz',(w.freeze ⟨b,0,none⟩ n).heap[b]?=some (.cells arr e fz'))∧(w.freeze ⟨b,0,none⟩ n).os=w.os∧(w.freeze ⟨b,0,none⟩ n).tape=w.tape∧(w.freeze ⟨b,0,none⟩ n).output=w.output:=by
 unfold World.freeze;split
 ·exact⟨rfl,fun _ _=>rfl,fun arr e fz h=>⟨fz,h⟩,rfl,rfl,rfl⟩
 ·refine⟨by simp,fun k hk=>?_,fun arr e fz h=>?_,rfl,rfl,rfl⟩
  ·simp only[Array.getElem?_modify];rw[if_neg (by omega)]
  ·simp only[Array.getElem?_modify,if_true,h,Option.map_some];exact⟨_,rfl⟩
theorem extCC_ok{args:List Value}{H:Hp}{v:Value}{H':Hp}(he:extCC args H=some (v,H')){args':List Value}{w:World}{β:Bt}(hl:LRel β args args')(hR:Rel PP w H β) :
  Calls PP B3 args'.toArray w fun x w'=>∃v' β',x=.returned v'∧Rel PP w' H' β'∧Ext w.heap.size w H β w' H' β'∧VRel β' v v':=by
 have key:∀(i:Nat) (p u:Value),H.get i=some (.cells [p,u] true)→H.ty i=some AQ→∀x,β i=some x→x.s=0∧∃arr fz,w.heap[x.b]?=some (.cells arr AQ fz)∧arr.size=x.t∧2≤arr.size∧(∀j,j<x.t→¬(fz.1≤j∧j<fz.2)) ∧
   ∃p',w.cell? ⟨x.b,0,none⟩=some p'∧VRel β p p':=by
  intro i p u hg hty x hx;obtain⟨x',hx',h1,h2⟩:=hR.cells i _ true hg;rw[hx]at hx';cases hx';obtain⟨⟨arr,e,fz,g1,g2,g3⟩,g4⟩:=h2 rfl;obtain⟨x2,arr2,fz2,hx2,hs0,g5,g6⟩:=hR.tys i _ hty;rw[hx]at hx2;cases hx2;rw[g1]at g5;cases g5;obtain⟨p',a1,a2⟩:=h1 0 p rfl;rw[hs0]at a1 g4;have g4:0+2≤x.t:=g4;exact⟨hs0,arr,fz,g1,g2,by omega,g3,p',a1,a2⟩
 unfold extCC at he;split at he
 ·rename_i i;obtain⟨a',rfl,ha⟩:=hl.single;cases ha with
  |ptr _ _ x hx=>
  unfold ccB at he;split at he
  ·rename_i u hg;split at he
   ·rename_i hty;cases he;obtain⟨hs0,arr,fz,g1,g2,g3,g4,p',c0,r0⟩:=key i _ _ hg hty x hx;cases r0;have hput:=zhS w x.b 0 (.pointer (some ⟨x.b,0,none⟩)) arr _ fz g1 (by omega);have hfz:w.frozen? ⟨x.b,0,none⟩=false:=zhe g1 (g4 0 (by omega));have hcall:=cc_fresh x.b arr.size g3 w c0 (znM g1) hfz;rw[hs0];refine hcall.mono fun e w' ⟨h1,h2⟩=>?_;subst h2;have hv:LRel β [Value.pointer (some ⟨i,0,none⟩)] [Value.pointer (some ⟨x.b,0,none⟩)]:=by have:=VRel.ptr (β:=β) i 0 x hx;rw[hs0]at this;exact LRel.cons this (LRel.nil _)
    obtain⟨k1,k2⟩:=hR.write hg hx (off:=0) (vs:=[Value.pointer (some ⟨i,0,none⟩)]) (vs':=[Value.pointer (some ⟨x.b,0,none⟩)]) (by simp) hv (by rw[hs0];exact hput);exact⟨_,β,h1,k1,k2,.tuple [] [] rfl (fun k v v' h=>by cases h)⟩
   ·cases he
  ·rename_i j u hg;split at he
   ·rename_i hj;cases he;obtain⟨rfl,hty⟩:=hj;obtain⟨hs0,arr,fz,g1,g2,g3,g4,p',c0,r0⟩:=key _ _ _ hg hty x hx;cases r0 with
    |ptr _ _ y hy=>
    rw[hx]at hy;cases hy;rw[hs0]at c0 ⊢;refine(cc_used x.b w c0).mono fun e w' ⟨h1,h2⟩=>?_;subst h2;exact⟨_,β,h1,hR,Ext.refl _ _ _ _,.tuple [] [] rfl (fun k v v' h=>by cases h)⟩
   ·cases he
  ·cases he
 ·cases he
theorem extStr_ok{args:List Value}{H:Hp}{v:Value}{H':Hp}(he:extStr args H=some (v,H')){args':List Value}{w:World}{β:Bt}(hl:LRel β args args')(hR:Rel PP w H β) :
  Calls PP B2 args'.toArray w fun x w'=>∃v' β',x=.returned v'∧Rel PP w' H' β'∧Ext w.heap.size w H β w' H' β'∧VRel β' v v':=by
 have zero:∀i x,H.ty i=some AQ→β i=some x→x.s=0:=fun i x hty hx=>by obtain⟨x2,arr2,fz2,hx2,hs0,_⟩:=hR.tys i _ hty;rw[hx]at hx2;cases hx2;exact hs0
 unfold extStr at he;split at he
 ·rename_i i;obtain⟨a',rfl,ha⟩:=hl.single;cases ha with
  |ptr _ _ x hx=>
  unfold strB at he;split at he
  ·rename_i p own hg;split at he
   ·rename_i hty;cases he;have hs0:=zero i x hty hx;obtain⟨x',hx',h1,_⟩:=hR.cells i _ _ hg;rw[hx]at hx';cases hx';obtain⟨v',c1,r1⟩:=h1 1 _ rfl;cases r1;rw[hs0]at c1 ⊢;refine(str_nil x.b w c1).mono fun e w' ⟨g1,g2,g3,g4,g5⟩=>?_;have hw:∀b:Nat,w'.heap[b]?=w.heap[b]?:=fun b=>by rw[g2]
    exact⟨_,β,g1,hR.frame (by rw[g2];exact Nat.le_refl _) (fun _ _ _=>hw _),⟨g3,g4,g5,by rw[g2];exact Nat.le_refl _,Bt.le_refl _,Nat.le_refl _,fun b _ _=>hw b,fun b q=>.inr q,fun i x hx hn=>by rw[hn]at hx;cases hx⟩,.string _⟩
   ·cases he
  ·rename_i p j n c own hg;unfold strB2 at he;split at he
   ·rename_i cs hgj;split at he
    ·rename_i hc;obtain⟨hty,htj,hn0,hn,hn60⟩:=hc;split at he
     ·rename_i l hb;cases he;have hs0:=zero i x hty hx;obtain⟨x',hx',h1,_⟩:=hR.cells i _ _ hg;rw[hx]at hx';cases hx';obtain⟨v',c1,r1⟩:=h1 1 _ rfl;cases r1 with
      |slice _ _ _ _ _ y o' c' hy hnc hcc ht hoo=>
      obtain⟨y2,arr,fz,hy2,ys0,k1,k2⟩:=hR.tys j _ htj;rw[hy]at hy2;cases hy2;have ho':o'=0:=by have:=hoo (by omega);omega
      subst ho';have hcl:=zhh _ _ hb;have hlen:l.length=n:=by have:=congrArg List.length hcl;rw[length_take,length_map]at this;omega
      obtain⟨y3,hy3,m1,m2⟩:=hR.cells j _ _ hgj;rw[hy]at hy3;cases hy3;obtain⟨_,m3⟩:=m2 rfl;have hcell:∀q b,l[q]?=some b→w.cell? ((⟨y.b,0,none⟩:Addr).add q)=some (.int .u8 b.toNat):=fun q b hq=>by
       have hq':cs[q]?=some (.int .u8 (b.toNat:Int)):=by
        have e1:(cs.take n)[q]?=some (Value.int .u8 (b.toNat:Int)):=by rw[hcl,List.getElem?_map,hq];rfl
        rw[List.getElem?_take]at e1;split at e1
        ·exact e1
        ·cases e1
       obtain⟨v2,d1,d2⟩:=m1 q _ hq';cases d2;have ea:(⟨y.b,0,none⟩:Addr).add q=⟨y.b,y.s+q,none⟩:=by rw[ys0];unfold Addr.add;split<;>simp_all
       rw[ea];exact d1
      rw[hs0]at c1 ⊢;rw[←hlen]at c1;have hne:l≠[]:=fun q=>by rw[q]at hlen;simp at hlen;omega
      refine(str_row x.b y.b c' arr.size l hne (by omega) (by omega) (by omega) w c1 (znM k1) hcell).mono fun e w' ⟨g1,w0,g2,g3,g4,g5,g6⟩=>?_;subst g6;obtain⟨f1,f2,f3,f4,f5,f6⟩:=zmd w0 y.b l.length;obtain⟨q1,q2⟩:=hR.freeze (w':=w0.freeze ⟨y.b,0,none⟩ l.length) hgj hy (f4.trans g3) (f5.trans g4) (f6.trans g5) (by rw[f1,g2]) (fun k hk=>by rw[f2 k hk,g2]) (fun arr e fz hh=>f3 arr e fz (by rw[g2];exact hh));exact⟨_,β,g1,q1,q2,.string _⟩
     ·cases he
    ·cases he
   ·cases he
  ·cases he
 ·cases he
end Go.AM
namespace Go.AM
open Go Go.AM
noncomputable def zap(R:zaf)(i:Value)(l:Value)(j:Value)(c:Value)(a:List Value)(f:Hp):Option Outc:=pLen .sl c f fun r=>pBin PP .lss Aa (a.getD 4 undef) r fun s=>zaa s fun t=>br t (pIdx 3 c (a.getD 4 undef) fun u=>zav 0 u fun v=>zak 1 false f v fun w=>pIdx 3 c (a.getD 4 undef) fun x=>zav 1 x fun y=>zak 1 false f y fun z=>zae R Bo [l,w,z] f fun m A=>zac m 0 fun B=>zac m 1 fun C=>zae R Aj [C] A fun D k=>pBin PP .neq Aa D (.int .i64 0) fun E=>zaa E fun F=>br F (some (.ret,[(.bool false)],k)) (pIdx 3 c (a.getD 4 undef) fun G=>zav 0 G fun H=>zak 1 false k H fun I=>zal 1 [.string ⟨#[]⟩] 1 [(0,I)] k fun J K=>zaF 1 16 (a.getD 1 undef) J K fun d L=>zal 1 [.int .i64 0] 1 [(0,B)] L fun M N=>zaF 1 8 (a.getD 3 undef) M N fun e g=>zaw (pLen .sl i g fun O=>pBin PP .eql Aa O (.int .i64 0) fun P=>zaa P fun Q=>br Q (some (.exit 1,[],g)) (pLen .sl j g fun S=>pBin PP .eql Aa S (.int .i64 0) fun T=>zaa T fun U=>br U (some (.exit 1,[],g)) (some (.next,[],g)))) fun V W b=>zaG V (pLen .sl i b fun X=>pBin PP .rem Aa (a.getD 4 undef) X fun Y=>pIdx 1 i Y fun Z=>zak 1 false b Z fun n=>pBin PP .lss Aa n (.int .i64 0) fun aa=>zaa aa fun ab=>br ab (pBin PP .add Aa (a.getD 4 undef) (.int .i64 1) fun ac=>some (.next,[(a.getD 0 undef),d,(a.getD 2 undef),e,ac],b)) (pLen .sl j b fun ad=>pBin PP .rem Aa n ad fun ae=>pIdx 1 j ae fun af=>zak 1 false b af fun o=>zae R Ak [l,o] b fun p ag=>zac p 0 fun ah=>zac p 1 fun ai=>zaN 7 [.int .i64 0,.int .i64 0,.int .i64 0,.int .i64 0,.int .i64 0,.int .u64 0,.string ⟨#[]⟩] 0 ah fun aj=>zae R Aj [ai] ag fun ak h=>pBin PP .eql Aa ak (.int .i64 0) fun al=>zaa al fun am=>br am (zaj 1 false aj 1 fun ao=>pIdx 3 c (a.getD 4 undef) fun ap=>zav 1 ap fun aq=>zak 1 false h aq fun ar=>pBin PP .eql Aa ao ar fun au=>zaa au fun av=>br av (pIdx 3 c (a.getD 4 undef) fun aw=>zav 0 aw fun ax=>zak 1 false h ax fun ay=>zal 1 [.string ⟨#[]⟩] 1 [(0,ay)] h fun az ba=>zaF 1 16 (a.getD 0 undef) az ba fun bb bc=>zal 1 [.int .i64 0] 1 [(0,o)] bc fun bd be=>zaF 1 8 (a.getD 2 undef) bd be fun bf bg=>pBin PP .add Aa (a.getD 4 undef) (.int .i64 1) fun bh=>some (.next,[bb,d,bf,e,bh],bg)) (pBin PP .add Aa (a.getD 4 undef) (.int .i64 1) fun bi=>some (.next,[(a.getD 0 undef),d,(a.getD 2 undef),e,bi],h))) (pBin PP .add Aa (a.getD 4 undef) (.int .i64 1) fun bj=>some (.next,[(a.getD 0 undef),d,(a.getD 2 undef),e,bj],h)))) (fun q=>zax q 1 (pBin PP .add Aa (a.getD 4 undef) (.int .i64 1) fun bk=>some (.next,[(a.getD 0 undef),d,(a.getD 2 undef),e,bk],b)) (some (.exit q,[(a.getD 0 undef),d,(a.getD 2 undef),e,(a.getD 4 undef)],b))) (some (.ret,[(W.headD undef)],b)))) (some (.exit 0,[(a.getD 0 undef),(a.getD 1 undef),(a.getD 2 undef),(a.getD 3 undef),(a.getD 4 undef)],f))
noncomputable def zat(R:zaf)(f:Value)(c:Value)(d:List Value)(e:List Value)(b:List Value)(a:Hp):Option Outc:=pLen .sl (d.getD 0 undef) a fun g=>pBin PP .lss Aa (b.getD 0 undef) g fun h=>zaa h fun i=>br i (pIdx 1 (d.getD 0 undef) (b.getD 0 undef) fun j=>zak 1 false a j fun k=>pIdx 3 c (e.getD 0 undef) fun l=>zav 0 l fun m=>zak 1 false a m fun n=>pBin PP .eql Ac k n fun o=>zaa o fun p=>br p (pIdx 1 f (b.getD 0 undef) fun q=>zak 1 false a q fun r=>pIdx 3 c (e.getD 0 undef) fun s=>zav 2 s fun t=>zas 1 a t r fun u=>pBin PP .add Aa (b.getD 0 undef) (.int .i64 1) fun v=>some (.next,[v],u)) (pBin PP .add Aa (b.getD 0 undef) (.int .i64 1) fun w=>some (.next,[w],a))) (some (.exit 4,[(b.getD 0 undef)],a))
noncomputable def zaA(R:zaf)(f:Value)(e:Value)(g:List Value)(a:List Value)(c:Hp):Option Outc:=pLen .sl e c fun h=>pBin PP .lss Aa (a.getD 0 undef) h fun i=>zaa i fun j=>br j (zaw (zau (zat R f e g a) [(.int .i64 0)] c) fun k l b=>zaG k none (fun d=>zax d 4 (pBin PP .add Aa (a.getD 0 undef) (.int .i64 1) fun m=>some (.next,[m],b)) (zax d 3 (pBin PP .add Aa (a.getD 0 undef) (.int .i64 1) fun n=>some (.next,[n],b)) (some (.exit d,[(a.getD 0 undef)],b)))) (some (.ret,[(l.headD undef)],b))) (some (.exit 2,[(a.getD 0 undef)],c))
theorem zdB(R:zaf)(h i j:Value)(k:Hp):zb7 R h i j k =
zae R BC [] k fun G l=>pUn .not G fun H=>zaa H fun I=>br I (some ((.bool false),l)) (zae R A9 [h] l fun g m=>zac g 0 fun b=>zac g 1 fun a=>zac g 2 fun J=>pUn .not J fun K=>zaa K fun L=>br L (some ((.bool true),m)) (zae R Bb [b,a] m fun n M=>zac n 0 fun o=>zac n 1 fun N=>zae R Aj [N] M fun O p=>pBin PP .neq Aa O (.int .i64 0) fun P=>zaa P fun Q=>br Q (some ((.bool false),p)) (zaw (zau (zap R j b a o) [(.slice none 0 0),(.slice none 0 0),(.slice none 0 0),(.slice none 0 0),(.int .i64 0)] p) fun S c q=>zaG S none (fun T=>zax T 0 (zae R Ay [b,a,(c.getD 0 undef),(c.getD 2 undef)] q fun r U=>zac r 0 fun s=>zac r 1 fun V=>zae R Ay [b,a,(c.getD 1 undef),(c.getD 3 undef)] U fun t W=>zac t 0 fun X=>zac t 1 fun Y=>zae R Ay [b,a,(.slice none 0 0),(.slice none 0 0)] W fun u Z=>zac u 0 fun aa=>zac u 1 fun ab=>zaw (zae R Aj [V] Z fun ac ad=>zae R Aj [Y] ad fun ae af=>pBin PP .add Aa ac ae fun ag=>zae R Aj [ab] af fun ah v=>pBin PP .add Aa ag ah fun ai=>pBin PP .neq Aa ai (.int .i64 0) fun aj=>zaa aj fun ak=>br ak (some (.ret,[(.bool false)],v)) (zae R AU [X,a] v fun al w=>pUn .not al fun am=>zaa am fun ao=>br ao (some (.ret,[(.bool false)],w)) (zae R AU [aa,a] w fun ap d=>pUn .not ap fun aq=>zaa aq fun ar=>br ar (some (.ret,[(.bool false)],d)) (pLen .sl s d fun au=>pLen .sl a d fun av=>pBin PP .neq Aa au av fun aw=>zaa aw fun ax=>br ax (some (.ret,[(.bool false)],d)) (some (.next,[],d)))))) fun ay az x=>zaG ay (zae R A8 [o,i] x fun f ba=>zae R Au [b,s,f] ba fun y bb=>zac y 0 fun bc=>zac y 1 fun bd=>zae R Au [b,(c.getD 2 undef),f] bb fun z be=>zac z 0 fun A=>zac z 1 fun bf=>zaw (zae R Aj [bd] be fun bg B=>pBin PP .neq Aa bg (.int .i64 0) fun bh=>zaa bh fun bi=>br bi (some (.ret,[(.bool false)],B)) (zae R Aj [bf] B fun bj e=>pBin PP .neq Aa bj (.int .i64 0) fun bk=>zaa bk fun bl=>br bl (some (.ret,[(.bool false)],e)) (pLen .sl A e fun bm=>pLen .sl (c.getD 2 undef) e fun bn=>pBin PP .neq Aa bm bn fun bo=>zaa bo fun bp=>br bp (some (.ret,[(.bool false)],e)) (some (.next,[],e))))) fun bq bs C=>zaG bq (zaw (zau (zaA R A f c) [(.int .i64 0)] C) fun bt bu D=>zaG bt none (fun bv=>zax bv 2 (zae R Au [b,a,f] D fun E bw=>zac E 0 fun bx=>zac E 1 fun bz=>zae R Aj [bz] bw fun ca F=>pBin PP .eql Aa ca (.int .i64 0) fun cb=>zaa cb fun cc=>br cc (zae R AO [bc,bx] F fun cd ce=>some (cd,ce)) (some ((.bool false),F))) (none)) (some ((bu.headD undef),D))) (fun cf=>none) (some ((bs.headD undef),C))) (fun cg=>none) (some ((az.headD undef),x))) (none)) (some ((c.headD undef),q))))):=by kernel_rfl
noncomputable def zaD(R:zaf)(k:Value)(l:Value)(m:Value)(d:Value)(f:Value)(n:Value)(c:List Value)(g:Hp):Option Outc:=pBin PP .lss Aa (c.getD 0 undef) n fun o=>zaa o fun p=>br p (pIdx 1 l (c.getD 0 undef) fun q=>zak 1 false g q fun e=>zae R Ak [k,e] g fun h r=>zac h 0 fun s=>zac h 1 fun Z=>zaN 7 [.int .i64 0,.int .i64 0,.int .i64 0,.int .i64 0,.int .i64 0,.int .u64 0,.string ⟨#[]⟩] 0 s fun a=>zaj 1 false a 1 fun t=>pUpd PP Aa f e t r fun b=>zaj 1 false a 0 fun u=>pBin PP .neq Aa u (.int .i64 4) fun v=>zaa v fun w=>br w (zaj 7 true a 0 fun x=>zaj 1 false a 2 fun y=>za7 PP Aa (.int .u64 0) d y false b fun z=>zaj 1 false a 3 fun A=>za7 PP Aa (.int .u64 0) d A false b fun B=>zaj 1 false a 4 fun C=>za7 PP Aa (.int .u64 0) d C false b fun D=>zaj 1 false a 2 fun E=>za7 PP Aa (.int .i64 0) f E false b fun F=>zaj 1 false a 3 fun G=>za7 PP Aa (.int .i64 0) f G false b fun H=>zae R BE [x,z,B,D,F,H] b fun I J=>pUpd PP Aa d e I J fun K=>pBin PP .add Aa (c.getD 0 undef) (.int .i64 1) fun L=>some (.next,[L],K)) (zaj 1 false a 6 fun M=>za7 PP Ac (.agg #[.string ⟨#[]⟩,.int .i64 0,.int .u64 0]) m M true b fun i=>zac i 0 fun N=>zac i 1 fun O=>zaN 3 [.string ⟨#[]⟩,.int .i64 0,.int .u64 0] 0 N fun j=>zaa O fun P=>br P (zaj 1 false j 1 fun Q=>zaj 1 false a 1 fun S=>pBin PP .neq Aa Q S fun T=>zaa T fun U=>br U (some (.ret,[(.tuple #[(.slice none 0 0),(.int .i64 71)])],b)) (zaj 1 false j 2 fun V=>pUpd PP Aa d e V b fun W=>pBin PP .add Aa (c.getD 0 undef) (.int .i64 1) fun X=>some (.next,[X],W))) (pBin PP .add Aa (c.getD 0 undef) (.int .i64 1) fun Y=>some (.next,[Y],b)))) (some (.exit 0,[(c.getD 0 undef)],g))
noncomputable def zbs(R:zaf)(c:Value)(d:Value)(e:Value)(a:List Value)(b:Hp):Option Outc:=pBin PP .lss Aa (a.getD 1 undef) e fun f=>zaa f fun g=>br g (pIdx 1 c (a.getD 1 undef) fun h=>zak 1 false b h fun i=>za7 PP Aa (.int .u64 0) d i false b fun j=>zal 1 [.int .u64 0] 1 [(0,j)] b fun k l=>zaF 1 8 (a.getD 0 undef) k l fun m n=>pBin PP .add Aa (a.getD 1 undef) (.int .i64 1) fun o=>some (.next,[m,o],n)) (some (.exit 2,[(a.getD 0 undef),(a.getD 1 undef)],b))
theorem zkU(R:zaf)(b a g:Value)(d:Hp):zgd R b a g d =
pBin PP .eql Ao b (.pointer none) fun s=>zaa s fun t=>br t (some ((.tuple #[(.slice none 0 0),(.int .i64 2)]),d)) (zae R At [b,a] d fun h i=>zac h 0 fun c=>zac h 1 fun j=>pBin PP .neq Ai j (.int .i64 0) fun u=>zaa u fun v=>br v (some ((.tuple #[(.slice none 0 0),j]),i)) (zae R Be [g] i fun k e=>zac k 0 fun w=>zac k 1 fun l=>pBin PP .neq Ai l (.int .i64 0) fun x=>zaa x fun y=>br y (some ((.tuple #[(.slice none 0 0),l]),e)) (pLen .sl c e fun z=>zeo z (zbD e fun m n=>pLen .sl c n fun A=>zeo A (zbD n fun B o=>pLen .sl c o fun C=>zaw (zau (zaD R b c w m B C) [(.int .i64 0)] o) fun D E f=>zaG D none (fun F=>zax F 0 (pLen .sl a f fun G=>zaY 1 8 [.int .u64 0] (.int .i64 0) G f fun H p=>pLen .sl a p fun I=>zaw (zau (zbs R a m I) [H,(.int .i64 0)] p) fun J q r=>zaG J none (fun K=>zax K 2 (some ((.tuple #[(q.getD 0 undef),(.int .i64 0)]),r)) (none)) (some ((q.headD undef),r))) (none)) (some ((E.headD undef),f))))))):=by kernel_rfl
noncomputable def zbd(R:zaf)(c:Value)(d:Value)(b:List Value)(a:Hp):Option Outc:=pLen .sl c a fun e=>pBin PP .lss Aa (b.getD 0 undef) e fun f=>zaa f fun g=>br g (pIdx 1 c (b.getD 0 undef) fun h=>zak 1 false a h fun i=>pIdx 1 d (b.getD 0 undef) fun j=>zak 1 false a j fun k=>pBin PP .neq Ab i k fun l=>zaa l fun m=>br m (some (.ret,[(.bool false)],a)) (pBin PP .add Aa (b.getD 0 undef) (.int .i64 1) fun n=>some (.next,[n],a))) (some (.exit 0,[(b.getD 0 undef)],a))
theorem zei(R:zaf)(b c:Value)(a:Hp):zcm R b c a =
pLen .sl b a fun e=>pLen .sl c a fun f=>pBin PP .neq Aa e f fun g=>zaa g fun h=>br h (some ((.bool false),a)) (zaw (zau (zbd R b c) [(.int .i64 0)] a) fun i j d=>zaG i none (fun k=>zax k 0 (some ((.bool true),d)) (none)) (some ((j.headD undef),d))):=by kernel_rfl
noncomputable def zcq(R:zaf)(f:Value)(g:Value)(h:Value)(a:List Value)(b:Hp):Option Outc:=pBin PP .lss Aa (a.getD 1 undef) h fun i=>zaa i fun j=>br j (pIdx 1 g (a.getD 1 undef) fun k=>zak 1 false b k fun l=>zae R Ak [f,l] b fun d e=>zac d 0 fun m=>zac d 1 fun z=>zaN 7 [.int .i64 0,.int .i64 0,.int .i64 0,.int .i64 0,.int .i64 0,.int .u64 0,.string ⟨#[]⟩] 0 m fun c=>zaj 1 false c 0 fun n=>pBin PP .eql Aa n (.int .i64 4) fun o=>zaa o fun p=>br p (zaj 1 false c 6 fun q=>zaj 1 false c 1 fun r=>zaE PP A3 [(0,q),(1,r)] fun s=>zal 3 [.string ⟨#[]⟩,.int .i64 0,.int .u64 0] 1 [(0,s)] e fun t u=>zaF 3 32 (a.getD 0 undef) t u fun v w=>pBin PP .add Aa (a.getD 1 undef) (.int .i64 1) fun x=>some (.next,[v,x],w)) (pBin PP .add Aa (a.getD 1 undef) (.int .i64 1) fun y=>some (.next,[(a.getD 0 undef),y],e))) (some (.exit 0,[(a.getD 0 undef),(a.getD 1 undef)],b))
theorem znm(R:zaf)(a d:Value)(b:Hp):zix R a d b =
pBin PP .eql Ao a (.pointer none) fun j=>zaa j fun k=>br k (some ((.tuple #[(.slice none 0 0),(.int .i64 2)]),b)) (zae R At [a,d] b fun e c=>zac e 0 fun f=>zac e 1 fun g=>pBin PP .neq Ai g (.int .i64 0) fun l=>zaa l fun m=>br m (some ((.tuple #[(.slice none 0 0),g]),c)) (pLen .sl f c fun n=>zaw (zau (zcq R a f n) [(.slice none 0 0),(.int .i64 0)] c) fun o h i=>zaG o none (fun p=>zax p 0 (some ((.tuple #[(h.getD 0 undef),(.int .i64 0)]),i)) (none)) (some ((h.headD undef),i)))):=by kernel_rfl
noncomputable def zaT(R:zaf)(g:Value)(e:Value)(a:List Value)(b:Hp):Option Outc:=pLen .sl g b fun j=>pBin PP .lss Aa (a.getD 1 undef) j fun k=>zaa k fun l=>br l (pIdx 3 g (a.getD 1 undef) fun m=>zak 3 true b m fun n=>zaN 3 [.string ⟨#[]⟩,.int .i64 0,.int .u64 0] 0 n fun o=>zaN 1 o 2 (.int .u64 0) fun h=>zaw (pLen .sl e b fun p=>pBin PP .gtr Aa p (.int .i64 0) fun q=>zaa q fun r=>br r (pLen .sl e b fun s=>pBin PP .rem Aa (a.getD 1 undef) s fun t=>pIdx 1 e t fun u=>zak 1 false b u fun v=>zaN 1 h 2 v fun w=>some (.next,[(.agg w.toArray)],b)) (some (.next,[(.agg h.toArray)],b))) fun x c d=>zaG x (zaj 1 false (zab ((c.drop 0).getD 0 undef)) 1 fun f=>pBin PP .eql Aa f (.int .i64 0) fun y=>zaa y fun z=>br z (pBin PP .lss Aa (.int .i64 1) (.int .i64 64) fun A=>zaa A fun B=>br B (zaj 1 false (zab ((c.drop 0).getD 0 undef)) 2 fun C=>zaq .u64 (.int .i64 1) fun D=>pBin PP .shl Ab (.int .u64 1) D fun E=>pBin PP .sub Ab E (.int .u64 1) fun F=>pBin PP .and Ab C F fun G=>zaN 1 (zab ((c.drop 0).getD 0 undef)) 2 G fun H=>zaj 3 true H 0 fun I=>zal 3 [.string ⟨#[]⟩,.int .i64 0,.int .u64 0] 1 [(0,I)] d fun J K=>zaF 3 32 (a.getD 0 undef) J K fun L M=>pBin PP .add Aa (a.getD 1 undef) (.int .i64 1) fun N=>some (.next,[L,N],M)) (zaj 3 true (zab ((c.drop 0).getD 0 undef)) 0 fun O=>zal 3 [.string ⟨#[]⟩,.int .i64 0,.int .u64 0] 1 [(0,O)] d fun P Q=>zaF 3 32 (a.getD 0 undef) P Q fun S T=>pBin PP .add Aa (a.getD 1 undef) (.int .i64 1) fun U=>some (.next,[S,U],T))) (pBin PP .lss Aa f (.int .i64 64) fun V=>zaa V fun W=>br W (zaj 1 false (zab ((c.drop 0).getD 0 undef)) 2 fun X=>zaq .u64 f fun Y=>pBin PP .shl Ab (.int .u64 1) Y fun Z=>pBin PP .sub Ab Z (.int .u64 1) fun aa=>pBin PP .and Ab X aa fun ab=>zaN 1 (zab ((c.drop 0).getD 0 undef)) 2 ab fun ac=>zaj 3 true ac 0 fun ad=>zal 3 [.string ⟨#[]⟩,.int .i64 0,.int .u64 0] 1 [(0,ad)] d fun ae af=>zaF 3 32 (a.getD 0 undef) ae af fun ag ah=>pBin PP .add Aa (a.getD 1 undef) (.int .i64 1) fun ai=>some (.next,[ag,ai],ah)) (zaj 3 true (zab ((c.drop 0).getD 0 undef)) 0 fun aj=>zal 3 [.string ⟨#[]⟩,.int .i64 0,.int .u64 0] 1 [(0,aj)] d fun ak al=>zaF 3 32 (a.getD 0 undef) ak al fun am ao=>pBin PP .add Aa (a.getD 1 undef) (.int .i64 1) fun ap=>some (.next,[am,ap],ao)))) (fun i=>zax i 1 (pBin PP .add Aa (a.getD 1 undef) (.int .i64 1) fun aq=>some (.next,[(a.getD 0 undef),aq],d)) (some (.exit i,[(a.getD 0 undef),(a.getD 1 undef)],d))) (some (.ret,[(c.headD undef)],d))) (some (.exit 0,[(a.getD 0 undef),(a.getD 1 undef)],b))
theorem zff(R:zaf)(a b:Value)(c:Hp):zdf R a b c =
zaw (zau (zaT R a b) [(.slice none 0 0),(.int .i64 0)] c) fun f d e=>zaG f none (fun g=>zax g 0 (some ((d.getD 0 undef),e)) (none)) (some ((d.headD undef),e)):=by kernel_rfl
noncomputable def zbx(R:zaf)(d:Value)(e:Value)(c:Value)(h:Value)(a:List Value)(b:Hp):Option Outc:=pBin PP .lss Aa (a.getD 0 undef) (.int .i64 3) fun i=>zaa i fun j=>br j (zcj 3 false 1 h (a.getD 0 undef) fun f=>pBin PP .neq Aa f (.int .i64 0) fun k=>zaa k fun l=>br l (za7 PP Aa (.int .u64 0) d c false b fun m=>za7 PP Aa (.int .u64 0) d f false b fun n=>zae R BG [m,n] b fun o p=>pUpd PP Aa d c o p fun g=>za7 PP Aa (.int .i64 0) e c false g fun q=>za7 PP Aa (.int .i64 0) e f false g fun r=>pMM true [q,r] fun s=>pUpd PP Aa e c s g fun t=>pBin PP .add Aa (a.getD 0 undef) (.int .i64 1) fun u=>some (.next,[u],t)) (pBin PP .add Aa (a.getD 0 undef) (.int .i64 1) fun v=>some (.next,[v],b))) (some (.exit 2,[(a.getD 0 undef)],b))
noncomputable def zbW(R:zaf)(j:Value)(k:Value)(h:Value)(d:Value)(l:Value)(a:List Value)(e:Hp):Option Outc:=pBin PP .lss Aa (a.getD 0 undef) l fun m=>zaa m fun n=>br n (pIdx 1 k (a.getD 0 undef) fun o=>zak 1 false e o fun b=>zae R Ak [j,b] e fun i p=>zac i 0 fun q=>zac i 1 fun D=>zaN 7 [.int .i64 0,.int .i64 0,.int .i64 0,.int .i64 0,.int .i64 0,.int .u64 0,.string ⟨#[]⟩] 0 q fun f=>pUpd PP Aa h b (.int .u64 1) p fun r=>zaj 1 false f 2 fun s=>zaj 1 false f 3 fun t=>zaj 1 false f 4 fun u=>zaE PP Br [(0,s),(1,t),(2,u)] fun v=>zaw (zau (zbx R h d b v) [(.int .i64 0)] r) fun w x c=>zaG w none (fun g=>zax g 2 (za7 PP Aa (.int .i64 0) d b false c fun y=>pBin PP .add Aa y (.int .i64 1) fun z=>pUpd PP Aa d b z c fun A=>pBin PP .add Aa (a.getD 0 undef) (.int .i64 1) fun B=>some (.next,[B],A)) (zax g 1 (pBin PP .add Aa (a.getD 0 undef) (.int .i64 1) fun C=>some (.next,[C],c)) (some (.exit g,[(a.getD 0 undef)],c)))) (some (.ret,[(x.headD undef)],c))) (some (.exit 0,[(a.getD 0 undef)],e))
theorem znn(R:zaf)(c d:Value)(e:Hp):ziy R c d e =
pBin PP .eql Ao c (.pointer none) fun m=>zaa m fun n=>br n (some ((.tuple #[(.int .i64 0),(.int .u64 0),(.int .i64 0),(.int .i64 2)]),e)) (zal 1 [.int .i64 0] 1 [(0,d)] e fun o p=>zae R At [c,o] p fun g f=>zac g 0 fun a=>zac g 1 fun h=>pBin PP .neq Ai h (.int .i64 0) fun q=>zaa q fun r=>br r (some ((.tuple #[(.int .i64 0),(.int .u64 0),(.int .i64 0),h]),f)) (pLen .sl a f fun s=>zeo s (zbD f fun i j=>pLen .sl a j fun t=>zeo t (zbD j fun k l=>pLen .sl a l fun u=>zaw (zau (zbW R c a i k u) [(.int .i64 0)] l) fun v w b=>zaG v none (fun x=>zax x 0 (pLen .sl a b fun y=>za7 PP Aa (.int .u64 0) i d false b fun z=>za7 PP Aa (.int .i64 0) k d false b fun A=>some ((.tuple #[y,z,A,(.int .i64 0)]),b)) (none)) (some ((w.headD undef),b)))))):=by kernel_rfl
noncomputable def zbT(R:zaf)(c:Value)(d:Value)(e:Value)(f:Value)(a:List Value)(b:Hp):Option Outc:=pBin PP .lss Aa (a.getD 0 undef) e fun g=>zaa g fun h=>br h (pIdx 1 c (a.getD 0 undef) fun i=>zak 1 false b i fun j=>zak 1 false b f fun k=>pIdx 1 d (a.getD 0 undef) fun l=>zak 1 false b l fun m=>pUpd PP Ac k j m b fun n=>pBin PP .add Aa (a.getD 0 undef) (.int .i64 1) fun o=>some (.next,[o],n)) (some (.exit 0,[(a.getD 0 undef)],b))
noncomputable def zbS(R:zaf)(e:Value)(j:Value)(k:Value)(f:Value)(b:List Value)(d:Hp):Option Outc:=pBin PP .lss Aa (b.getD 0 undef) k fun l=>zaa l fun m=>br m (pIdx 1 j (b.getD 0 undef) fun n=>zak 1 false d n fun o=>zae R Ak [e,o] d fun g a=>zac g 0 fun p=>zac g 1 fun K=>zaN 7 [.int .i64 0,.int .i64 0,.int .i64 0,.int .i64 0,.int .i64 0,.int .u64 0,.string ⟨#[]⟩] 0 p fun c=>zaj 1 false c 0 fun q=>pBin PP .neq Aa q (.int .i64 4) fun r=>zaa r fun s=>br s (pBin PP .add Aa (b.getD 0 undef) (.int .i64 1) fun t=>some (.next,[t],a)) (zak 1 false a f fun u=>zaj 1 false c 6 fun v=>za7 PP Ac (.int .i64 0) u v false a fun w=>pBin PP .eql Aa w (.int .i64 0) fun x=>zaa x fun y=>br y (pBin PP .add Aa (b.getD 0 undef) (.int .i64 1) fun z=>some (.next,[z],a)) (zak 1 false a f fun A=>zaj 1 false c 6 fun B=>za7 PP Ac (.int .i64 0) A B false a fun C=>zae R Ak [e,C] a fun h i=>zac h 0 fun D=>zac h 1 fun L=>zaN 7 [.int .i64 0,.int .i64 0,.int .i64 0,.int .i64 0,.int .i64 0,.int .u64 0,.string ⟨#[]⟩] 0 D fun E=>zaj 1 false E 1 fun F=>zaj 1 false c 1 fun G=>pBin PP .neq Aa F G fun H=>zaa H fun I=>br I (some (.ret,[(.tuple #[(.slice none 0 0),(.int .i64 71)])],i)) (pBin PP .add Aa (b.getD 0 undef) (.int .i64 1) fun J=>some (.next,[J],i))))) (some (.exit 2,[(b.getD 0 undef)],d))
theorem zpg(R:zaf)(a f b d:Value)(g:Hp):zjN R a f b d g =
pBin PP .eql Ao a (.pointer none) fun t=>zaa t fun u=>br u (some ((.tuple #[(.slice none 0 0),(.int .i64 2)]),g)) (zae R At [a,f] g fun i j=>zac i 0 fun k=>zac i 1 fun l=>pBin PP .neq Ai l (.int .i64 0) fun v=>zaa v fun w=>br w (some ((.tuple #[(.slice none 0 0),l]),j)) (zae R At [a,d] j fun m n=>zac m 0 fun X=>zac m 1 fun o=>pBin PP .neq Ai o (.int .i64 0) fun x=>zaa x fun y=>br y (some ((.tuple #[(.slice none 0 0),o]),n)) (zae R Bc [b] n fun p c=>pBin PP .neq Ai p (.int .i64 0) fun z=>zaa z fun A=>br A (some ((.tuple #[(.slice none 0 0),p]),c)) (pLen .sl b c fun B=>pLen .sl d c fun C=>pBin PP .neq Aa B C fun D=>zaa D fun E=>br E (some ((.tuple #[(.slice none 0 0),(.int .i64 1)]),c)) (pLen .sl b c fun F=>zeo F (zbD c fun G H=>zcX [.map none] H fun e I=>zas 1 I e G fun q=>pLen .sl b q fun J=>zaw (zau (zbT R b d J e) [(.int .i64 0)] q) fun K L h=>zaG K none (fun M=>zax M 0 (pLen .sl k h fun N=>zaw (zau (zbS R a k N e) [(.int .i64 0)] h) fun O P r=>zaG O none (fun Q=>zax Q 2 (zae R AW [a,a,f,(.bool false),(.func (.func AF) #[] #[e])] r fun s S=>zac s 0 fun T=>zac s 1 fun U=>zae R BF [U] S fun V W=>some ((.tuple #[T,V]),W)) (none)) (some ((P.headD undef),r))) (none)) (some ((L.headD undef),h)))))))):=by kernel_rfl
noncomputable def zbg(R:zaf)(c:Value)(d:Value)(b:List Value)(a:Hp):Option Outc:=pLen .sl c a fun e=>pBin PP .lss Aa (b.getD 0 undef) e fun f=>zaa f fun g=>br g (pIdx 1 c (b.getD 0 undef) fun h=>zak 1 false a h fun i=>pIdx 1 d (b.getD 0 undef) fun j=>zak 1 false a j fun k=>pBin PP .neq Aa i k fun l=>zaa l fun m=>br m (some (.ret,[(.bool false)],a)) (pBin PP .add Aa (b.getD 0 undef) (.int .i64 1) fun n=>some (.next,[n],a))) (some (.exit 0,[(b.getD 0 undef)],a))
theorem zep(R:zaf)(b c:Value)(a:Hp):zcx R b c a =
pLen .sl b a fun e=>pLen .sl c a fun f=>pBin PP .neq Aa e f fun g=>zaa g fun h=>br h (some ((.bool false),a)) (zaw (zau (zbg R b c) [(.int .i64 0)] a) fun i j d=>zaG i none (fun k=>zax k 0 (some ((.bool true),d)) (none)) (some ((j.headD undef),d))):=by kernel_rfl
noncomputable def zbo(R:zaf)(g:Value)(b:Value)(c:Value)(t:List Value)(a:Hp):Option Outc:=pNil c (zav 1 c fun h=>zak 1 false a h fun i=>pLen .sl i a fun j=>pBin PP .gtr Aa j (.int .i64 0) fun k=>zaa k fun l=>br l (zak 1 false a b fun d=>zbk R Bq [c] a (fun m n=>some (.ret,[(W0 (.tuple #[m,g]))],n)) fun o e=>chk (Hp.rdP e b 1 false=some d) (zal 1 [.int .i64 0] 1 [(0,o)] e fun p f=>chk (Hp.rdP f b 1 false=some d) (zaF 1 8 d p f fun q r=>zas 1 r b q fun s=>some (.next,[],s)))) (some (.exit 2,[],a)))
noncomputable def zaW(R:zaf)(l:Value)(m:Value)(b:Value)(n:List Value)(a:List Value)(g:Hp):Option Outc:=pBin PP .lss Aa (a.getD 2 undef) l fun o=>zaa o fun p=>br p (pIdx 1 (n.getD 0 undef) (a.getD 2 undef) fun q=>zak 1 false g q fun r=>pBin PP .add Aa (a.getD 2 undef) (.int .i64 1) fun c=>zae R AG [r,(.func (.func Az) #[] #[])] g fun s t=>pNil b (zav 1 b fun u=>zas 1 t u s fun e=>zaw (zaa (a.getD 1 undef) fun v=>br v (zaE PP Ad [(0,(.int .i64 3))] fun w=>some (.ret,[(W0 (.tuple #[(.iface Ad w),c]))],e)) (pNil b (zav 1 b fun x=>zak 1 false e x fun y=>pLen .sl y e fun z=>pBin PP .eql Aa z (.int .i64 0) fun A=>zaa A fun B=>br B (zaE PP Ad [(0,(.int .i64 3))] fun C=>some (.ret,[(W0 (.tuple #[(.iface Ad C),c]))],e)) (some (.next,[],e))))) fun D E d=>zaG D (pNil b (zav 1 b fun F=>zak 1 false d F fun G=>pIdx 1 G (.int .i64 0) fun H=>zak 1 false d H fun I=>pBin PP .eql Ac I (.string ⟨#[114,111,111,116,115]⟩) fun J=>zaa J fun K=>br K (zbk R Ap [b] d (fun L M=>some (.ret,[(W0 (.tuple #[L,c]))],M)) fun ao N=>zaw (zau (zbo R c m b) [] N) fun O P f=>zaG O none (fun h=>zax h 2 (pBin PP .add Aa (a.getD 2 undef) (.int .i64 1) fun Q=>some (.next,[c,(.bool true),Q],f)) (zax h 1 (pBin PP .add Aa (a.getD 2 undef) (.int .i64 1) fun S=>some (.next,[c,(a.getD 1 undef),S],f)) (some (.exit h,[c,(a.getD 1 undef),(a.getD 2 undef)],f)))) (some (.ret,[(P.headD undef)],f))) (zbk R An [b] d (fun T U=>some (.ret,[(W0 (.tuple #[T,c]))],U)) fun V i=>pBin PP .add Aa (a.getD 2 undef) (.int .i64 1) fun W=>pBin PP .neq Aa V W fun X=>zaa X fun Y=>br Y (zaE PP Ad [(0,(.int .i64 3))] fun Z=>some (.ret,[(W0 (.tuple #[(.iface Ad Z),c]))],i)) (zbk R AI [b] i (fun aa ab=>some (.ret,[(W0 (.tuple #[aa,c]))],ab)) fun ac j=>pNil b (zav 2 b fun ad=>zak 1 false j ad fun ae=>zal 1 [.int .i64 0] 1 [(0,ac)] j fun af ag=>zaF 1 8 ae af ag fun ah ai=>pNil b (zav 2 b fun aj=>zas 1 ai aj ah fun ak=>pBin PP .add Aa (a.getD 2 undef) (.int .i64 1) fun al=>some (.next,[c,(a.getD 1 undef),al],ak))))))) (fun k=>zax k 1 (pBin PP .add Aa (a.getD 2 undef) (.int .i64 1) fun am=>some (.next,[c,(a.getD 1 undef),am],d)) (some (.exit k,[c,(a.getD 1 undef),(a.getD 2 undef)],d))) (some (.ret,[(E.headD undef)],d)))) (some (.exit 0,[(a.getD 0 undef),(a.getD 1 undef),(a.getD 2 undef)],g))
theorem znk(R:zaf)(e f:Value)(t:Hp):zit R e f t =
zcX [.pointer none] t fun b D=>zcX [.slice none 0 0] D fun c E=>zcX [.int .i64 0] E fun a F=>zae R Bn [f] F fun g G=>zac g 0 fun n=>zac g 1 fun o=>zas 1 G b n fun H=>zas 1 H a o fun k=>zak 1 false k a fun p=>pBin PP .neq Ai p (.int .i64 0) fun q=>zaa q fun I=>br I (zak 1 false k a fun r=>zas 1 k b (.pointer none) fun u=>chk (Hp.rdP u a 1 false=some r) (zas 1 u c (.slice none 0 0) fun v=>chk (Hp.rdP v a 1 false=some r) (zas 1 v a r fun l=>zak 1 false l b fun J=>zak 1 false l c fun K=>zak 1 false l a fun L=>some ((W1 (.tuple #[J,K,(.int .i64 0),L])),l)))) (zae R Bk [e,(.string ⟨#[10]⟩)] k fun d j=>zaw (pLen .sl d j fun M=>pBin PP .sub Aa M (.int .i64 1) fun N=>pIdx 1 d N fun O=>zak 1 false j O fun P=>pBin PP .eql Ac P (.string ⟨#[]⟩) fun Q=>zaa Q fun S=>br S (pLen .sl d j fun T=>pBin PP .sub Aa T (.int .i64 1) fun U=>zda 1 d none (some U) fun V=>some (.next,[V],j)) (some (.next,[d],j))) fun W h s=>zaG W (zgu (zak 1 false s b fun X=>zaE PP BV [(0,X)] fun Y=>zcX (zab Y) s fun Z w=>pLen .sl (h.getD 0 undef) w fun aa=>zaw (zau (zaW R aa c Z h) [(.int .i64 0),(.bool false),(.int .i64 0)] w) fun ab x i=>zaG ab none (fun ac=>zax ac 0 (pLen .sl (h.getD 0 undef) i fun ad=>pBin PP .add Aa ad (.int .i64 1) fun ae=>pUn .not (x.getD 1 undef) fun af=>zaa af fun ag=>br ag (zaE PP Ad [(0,(.int .i64 3))] fun ah=>some ((W0 (.tuple #[(.iface Ad ah),ae])),i)) (zak 1 false i b fun ai=>zak 1 false i c fun y=>zas 1 i b ai fun z=>chk (Hp.rdP z c 1 false=some y) (zas 1 z c y fun aj=>zas 1 aj a (.int .i64 0) fun m=>zak 1 false m b fun ak=>zak 1 false m c fun al=>zak 1 false m a fun am=>some ((W1 (.tuple #[ak,al,(.int .i64 0),am])),m)))) (none)) (some ((x.headD undef),i))) fun ao A=>zeN ao (fun u140=>zkd [.cell 4 24,.cell 5 22,.tmp 6,.cell 7 30] u140 fun ap=>zlM [.cell 4 24,.cell 5 22,.tmp 6,.cell 7 30] ap fun aq=>zgp PP orc R Bm [b,c,a] .nilIface A fun B=>endL PP [.val e,.val f,.unk,.unk,.val b,.val c,.val (.int .i64 0),.val a,.val (h.getD 0 undef),.unk,.unk,.unk,.unk,.unk,.val g,.val f,.val g,.val n,.val o,.val p,.val q,.unk,.val e,.val d,.unk,.unk,.unk,.unk,.unk,.unk,.unk,.unk,.unk,.unk,.unk,.unk,.val (.func (.func Bm) #[] #[b,c,a]),.unk,.unk,.unk,.unk,.unk,.unk,.unk,.unk,.unk,.unk,.unk,.unk,.unk,.unk,.unk,.unk,.unk,.unk,.unk,.unk,.unk,.unk,.unk,.unk,.unk,.unk,.unk,.unk,.unk,.unk,.unk,.unk,.unk,.unk,.unk,.unk,.unk,.unk,.unk,.unk,.unk,.unk,.unk,.unk,.unk,.unk,.unk,.unk,.unk,.unk,.unk,.unk,.unk,.unk,.unk,.unk,.unk,.unk,.unk,.unk,.unk,.unk,.unk,.unk,.unk,.unk,.unk,.unk,.unk,.unk,.unk,.unk,.unk,.unk,.unk,.unk,.unk] B [.cell 4 24,.cell 5 22,.tmp 6,.cell 7 30] aq fun ar=>some (W1 (resV ar),B)) (fun au=>pTail au fun av aw=>zgp PP orc R Bm [b,c,a] av A fun C=>endL PP [.val e,.val f,.unk,.unk,.val b,.val c,.val (.int .i64 0),.val a,.val (h.getD 0 undef),.unk,.unk,.unk,.unk,.unk,.val g,.val f,.val g,.val n,.val o,.val p,.val q,.unk,.val e,.val d,.unk,.unk,.unk,.unk,.unk,.unk,.unk,.unk,.unk,.unk,.unk,.unk,.val (.func (.func Bm) #[] #[b,c,a]),.unk,.unk,.unk,.unk,.unk,.unk,.unk,.unk,.unk,.unk,.unk,.unk,.unk,.unk,.unk,.unk,.unk,.unk,.unk,.unk,.unk,.unk,.unk,.unk,.unk,.unk,.unk,.unk,.unk,.unk,.unk,.unk,.unk,.unk,.unk,.unk,.unk,.unk,.unk,.unk,.unk,.unk,.unk,.unk,.unk,.unk,.unk,.unk,.unk,.unk,.unk,.unk,.unk,.unk,.unk,.unk,.unk,.unk,.unk,.unk,.unk,.unk,.unk,.unk,.unk,.unk,.unk,.unk,.unk,.unk,.unk,.unk,.unk,.unk,.unk,.unk,.unk] C [.cell 4 24,.cell 5 22,.tmp 6,.cell 7 30] aw fun ax=>some (W1 (resV ax),C))) (fun ay=>none) (retT (h.headD undef) s)):=by kernel_rfl
noncomputable def zaR(R:zaf)(d:Value)(e:Value)(f:Value)(a:List Value)(b:Hp):Option Outc:=pBin PP .lss Aa (a.getD 0 undef) f fun g=>zaa g fun h=>br h (pIdx 1 e (a.getD 0 undef) fun i=>zak 1 false b i fun j=>zae R AH [d,j] b fun k c=>pUn .not k fun l=>zaa l fun m=>br m (some (.ret,[(.tuple #[(.slice none 0 0),(.int .i64 70)])],c)) (pBin PP .add Aa (a.getD 0 undef) (.int .i64 1) fun n=>some (.next,[n],c))) (some (.exit 0,[(a.getD 0 undef)],b))
noncomputable def zay(R:zaf)(h:Value)(i:Value)(a:List Value)(c:Hp):Option Outc:=pLen .sl (a.getD 1 undef) c fun m=>pBin PP .gtr Aa m (.int .i64 0) fun n=>zaa n fun o=>br o (pLen .sl (a.getD 1 undef) c fun p=>pBin PP .sub Aa p (.int .i64 1) fun q=>pIdx 2 (a.getD 1 undef) q fun b=>pNil h (zav 1 h fun r=>zak 1 false c r fun s=>pNil b (zav 0 b fun t=>zak 1 false c t fun u=>pBin PP .sub Aa u (.int .i64 1) fun v=>pIdx 7 s v fun w=>zak 7 true c w fun x=>zaN 7 [.int .i64 0,.int .i64 0,.int .i64 0,.int .i64 0,.int .i64 0,.int .u64 0,.string ⟨#[]⟩] 0 x fun e=>pNil b (zav 1 b fun j=>zak 1 false c j fun k=>zaj 1 false e 0 fun y=>zae R Av [y] c fun z d=>chk (Hp.rdP d j 1 false=some k) (pBin PP .eql Aa k z fun A=>zaa A fun B=>br B (pNil b (zav 0 b fun C=>zak 1 false d C fun D=>zal 1 [.int .i64 0] 1 [(0,D)] d fun E F=>zaF 1 8 (a.getD 0 undef) E F fun G l=>pLen .sl (a.getD 1 undef) l fun H=>pBin PP .sub Aa H (.int .i64 1) fun I=>zda 2 (a.getD 1 undef) none (some I) fun J=>some (.next,[G,J],l))) (zaj 1 false e 2 fun K=>zaj 1 false e 3 fun L=>zaj 1 false e 4 fun M=>zaE PP Br [(0,K),(1,L),(2,M)] fun N=>pNil b (zav 1 b fun O=>zak 1 false d O fun P=>zcj 3 false 1 N P fun f=>pNil b (zav 1 b fun Q=>zak 1 false d Q fun S=>pBin PP .add Aa S (.int .i64 1) fun T=>pNil b (zav 1 b fun U=>zas 1 d U T fun g=>pIdx 1 i f fun V=>zak 1 false g V fun W=>pUn .not W fun X=>zaa X fun Y=>br Y (pIdx 1 i f fun Z=>zas 1 g Z (.bool true) fun aa=>zaE PP BU [(0,f),(1,(.int .i64 0))] fun ab=>zal 2 [.int .i64 0,.int .i64 0] 1 [(0,ab)] aa fun ac ad=>zaF 2 16 (a.getD 1 undef) ac ad fun ae af=>some (.next,[(a.getD 0 undef),ae],af)) (some (.next,[(a.getD 0 undef),(a.getD 1 undef)],g))))))))))) (some (.exit 4,[(a.getD 0 undef),(a.getD 1 undef)],c))
noncomputable def zaQ(R:zaf)(h:Value)(i:Value)(e:Value)(j:Value)(a:List Value)(c:Hp):Option Outc:=pBin PP .lss Aa (a.getD 2 undef) j fun k=>zaa k fun l=>br l (pIdx 1 i (a.getD 2 undef) fun m=>zak 1 false c m fun f=>pIdx 1 e f fun n=>zak 1 false c n fun o=>zaa o fun p=>br p (pBin PP .add Aa (a.getD 2 undef) (.int .i64 1) fun q=>some (.next,[(a.getD 0 undef),(a.getD 1 undef),q],c)) (pIdx 1 e f fun r=>zas 1 c r (.bool true) fun s=>zaE PP BU [(0,f),(1,(.int .i64 0))] fun t=>zal 2 [.int .i64 0,.int .i64 0] 1 [(0,t)] s fun u v=>zaF 2 16 (a.getD 1 undef) u v fun w x=>zaw (zau (zay R h e) [(a.getD 0 undef),w] x) fun y b d=>zaG y none (fun g=>zax g 4 (pBin PP .add Aa (a.getD 2 undef) (.int .i64 1) fun z=>some (.next,[(b.getD 0 undef),(b.getD 1 undef),z],d)) (zax g 3 (pBin PP .add Aa (a.getD 2 undef) (.int .i64 1) fun A=>some (.next,[(b.getD 0 undef),(b.getD 1 undef),A],d)) (some (.exit g,[(b.getD 0 undef),(b.getD 1 undef),(a.getD 2 undef)],d)))) (some (.ret,[(b.headD undef)],d)))) (some (.exit 2,[(a.getD 0 undef),(a.getD 1 undef),(a.getD 2 undef)],c))
theorem zdS(R:zaf)(a b:Value)(d:Hp):zdP R a b d =
pLen .sl b d fun i=>zaw (zau (zaR R a b i) [(.int .i64 0)] d) fun j k c=>zaG j none (fun l=>zax l 0 (pNil a (zav 1 a fun m=>zak 1 false c m fun n=>pLen .sl n c fun o=>pBin PP .add Aa o (.int .i64 1) fun e=>zaY 1 1 [.bool false] e e c fun p f=>pLen .sl b f fun q=>zaw (zau (zaQ R a b p q) [(.slice none 0 0),(.slice none 0 0),(.int .i64 0)] f) fun r g h=>zaG r none (fun s=>zax s 2 (some ((.tuple #[(g.getD 0 undef),(.int .i64 0)]),h)) (none)) (some ((g.headD undef),h)))) (none)) (some ((k.headD undef),c)):=by kernel_rfl
noncomputable def zbV(R:zaf)(g:Value)(d:Value)(h:Value)(b:List Value)(a:Hp):Option Outc:=pBin PP .lss Aa (b.getD 0 undef) h fun i=>zaa i fun j=>br j (pIdx 3 g (b.getD 0 undef) fun k=>zak 3 true a k fun l=>zaN 3 [.string ⟨#[]⟩,.int .i64 0,.int .u64 0] 0 l fun c=>zaj 1 false c 0 fun m=>za7 PP Ac (.agg #[.string ⟨#[]⟩,.int .i64 0,.int .u64 0]) d m true a fun e=>zac e 0 fun n=>zac e 1 fun o=>zaN 3 [.string ⟨#[]⟩,.int .i64 0,.int .u64 0] 0 n fun y=>zaa o fun p=>br p (some (.ret,[(.tuple #[(.map none),(.int .i64 72)])],a)) (zaj 1 false c 0 fun q=>zae R AS [q] a fun r f=>pUn .not r fun s=>zaa s fun t=>br t (some (.ret,[(.tuple #[(.map none),(.int .i64 72)])],f)) (zaj 1 false c 0 fun u=>zaj 3 true c 0 fun v=>pUpd PP Ac d u v f fun w=>pBin PP .add Aa (b.getD 0 undef) (.int .i64 1) fun x=>some (.next,[x],w)))) (some (.exit 0,[(b.getD 0 undef)],a))
noncomputable def zbU(R:zaf)(e:Value)(f:Value)(c:List Value)(a:Hp):Option Outc:=pBin PP .lss Aa (c.getD 0 undef) f fun g=>zaa g fun h=>br h (pIdx 3 e (c.getD 0 undef) fun i=>zak 3 true a i fun j=>zaN 3 [.string ⟨#[]⟩,.int .i64 0,.int .u64 0] 0 j fun b=>zaj 1 false b 1 fun k=>pBin PP .lss Aa k (.int .i64 0) fun l=>zaa l fun m=>br m (some (.ret,[(.tuple #[(.map none),(.int .i64 5)])],a)) (zaj 1 false b 1 fun n=>pBin PP .gtr Aa n (.int .i64 64) fun o=>zaa o fun p=>br p (some (.ret,[(.tuple #[(.map none),(.int .i64 5)])],a)) (zaj 1 false b 1 fun q=>pMM true [q,(.int .i64 1)] fun r=>zaj 1 false b 2 fun s=>zae R Ae [r,s] a fun t d=>zaj 1 false b 2 fun u=>pBin PP .neq Ab t u fun v=>zaa v fun w=>br w (some (.ret,[(.tuple #[(.map none),(.int .i64 5)])],d)) (pBin PP .add Aa (c.getD 0 undef) (.int .i64 1) fun x=>some (.next,[x],d))))) (some (.exit 2,[(c.getD 0 undef)],a))
theorem znl(R:zaf)(a:Value)(b:Hp):ziu R a b =
pLen .sl a b fun g=>zeo g (zbD b fun d e=>pLen .sl a e fun h=>zaw (zau (zbV R a d h) [(.int .i64 0)] e) fun i j c=>zaG i none (fun k=>zax k 0 (pLen .sl a c fun l=>zaw (zau (zbU R a l) [(.int .i64 0)] c) fun m n f=>zaG m none (fun o=>zax o 2 (some ((.tuple #[d,(.int .i64 0)]),f)) (none)) (some ((n.headD undef),f))) (none)) (some ((j.headD undef),c))):=by kernel_rfl
noncomputable def zbB(R:zaf)(g:Value)(d:Value)(h:Value)(a:List Value)(b:Hp):Option Outc:=pBin PP .lss Aa (a.getD 0 undef) h fun i=>zaa i fun j=>br j (pIdx 1 g (a.getD 0 undef) fun k=>zak 1 false b k fun c=>za7 PP Ac (.int .i64 0) d c false b fun l=>pBin PP .add Aa l (.int .i64 1) fun m=>pUpd PP Ac d c m b fun e=>za7 PP Ac (.int .i64 0) d c false e fun n=>pBin PP .gtr Aa n (.int .i64 1) fun o=>zaa o fun p=>br p (some (.ret,[(.int .i64 72)],e)) (zae R AS [c] e fun q f=>pUn .not q fun r=>zaa r fun s=>br s (some (.ret,[(.int .i64 72)],f)) (pBin PP .add Aa (a.getD 0 undef) (.int .i64 1) fun t=>some (.next,[t],f)))) (some (.exit 0,[(a.getD 0 undef)],b))
theorem zl9(R:zaf)(a:Value)(b:Hp):zg6 R a b =
pLen .sl a b fun e=>zeo e (zbD b fun f c=>pLen .sl a c fun g=>zaw (zau (zbB R a f g) [(.int .i64 0)] c) fun h i d=>zaG h none (fun j=>zax j 0 (some ((.int .i64 0),d)) (none)) (some ((i.headD undef),d))):=by kernel_rfl
noncomputable def za8(R:zaf)(d:Value)(e:Value)(c:List Value)(b:Hp):Option Outc:=pBin PP .lss Aa (c.getD 1 undef) (.int .i64 3) fun f=>zaa f fun g=>br g (zcj 3 false 1 e (c.getD 1 undef) fun a=>pNil a (zak 1 false b a fun h=>pBin PP .neq Aa h (.int .i64 0) fun i=>zaa i fun j=>br j (zaa (c.getD 0 undef) fun k=>br k (pNil a (zak 1 false b a fun l=>za7 PP Aa (.int .i64 0) d l false b fun m=>pNil a (zas 1 b a m fun n=>pBin PP .add Aa (c.getD 1 undef) (.int .i64 1) fun o=>some (.next,[(.bool true),o],n)))) (pNil a (zak 1 false b a fun p=>za7 PP Aa (.int .i64 0) d p false b fun q=>pNil a (zak 1 false b a fun r=>pBin PP .neq Aa q r fun s=>pNil a (zak 1 false b a fun t=>za7 PP Aa (.int .i64 0) d t false b fun u=>pNil a (zas 1 b a u fun v=>pBin PP .add Aa (c.getD 1 undef) (.int .i64 1) fun w=>some (.next,[s,w],v))))))) (pBin PP .add Aa (c.getD 1 undef) (.int .i64 1) fun x=>some (.next,[(c.getD 0 undef),x],b)))) (some (.exit 2,[(c.getD 0 undef),(c.getD 1 undef)],b))
noncomputable def zbr(R:zaf)(u:Value)(v:Value)(w:Value)(x:Value)(y:Value)(d:Value)(z:Value)(a:List Value)(h:Hp):Option Outc:=pBin PP .lss Aa (a.getD 0 undef) z fun A=>zaa A fun B=>br B (pIdx 1 y (a.getD 0 undef) fun C=>zak 1 false h C fun c=>zae R Ak [u,c] h fun l D=>zac l 0 fun E=>zac l 1 fun ak=>zcX [.int .i64 0,.int .i64 0,.int .i64 0,.int .i64 0,.int .i64 0,.int .u64 0,.string ⟨#[]⟩] D fun b F=>zas 7 F b E fun e=>zaw (zav 0 b fun G=>zak 1 false e G fun H=>pBin PP .eql Aa H (.int .i64 4) fun I=>zaa I fun J=>br J (zak 7 true e b fun K=>zc6 orc R x [K] e fun m i=>zac m 0 fun n=>zac m 1 fun o=>pBin PP .neq Ai o (.int .i64 0) fun L=>zaa L fun M=>br M (zaE PP AJ [(0,o)] fun N=>some (.ret,[(.tuple #[(.slice none 0 0),(.iface AJ N)])],i)) (pBin PP .neq Aa n (.int .i64 0) fun O=>zaa O fun P=>br P (pUpd PP Aa d c n i fun Q=>some (.exit 1,[],Q)) (some (.next,[],i)))) (some (.next,[],e))) fun S T f=>zaG S (zav 2 b fun U=>zav 3 b fun V=>zav 4 b fun W=>zaE PP A2 [(0,U),(1,V),(2,W)] fun X=>zaw (zau (za8 R d X) [w,(.int .i64 0)] f) fun Y p g=>zaG Y none (fun j=>zax j 2 (pUpd PP Aa d c c g fun k=>zaa (p.getD 0 undef) fun Z=>br Z (zak 7 true k b fun aa=>zae R Ar [v,aa] k fun q r=>zac q 0 fun ab=>zac q 1 fun s=>pBin PP .neq Ai s (.int .i64 0) fun ac=>zaa ac fun ad=>br ad (zaE PP AJ [(0,s)] fun ae=>some (.ret,[(.tuple #[(.slice none 0 0),(.iface AJ ae)])],r)) (pUpd PP Aa d c ab r fun af=>pBin PP .add Aa (a.getD 0 undef) (.int .i64 1) fun ag=>some (.next,[ag],af))) (pBin PP .add Aa (a.getD 0 undef) (.int .i64 1) fun ah=>some (.next,[ah],k))) (zax j 1 (pBin PP .add Aa (a.getD 0 undef) (.int .i64 1) fun ai=>some (.next,[ai],g)) (some (.exit j,[(a.getD 0 undef)],g)))) (some (.ret,[(p.headD undef)],g))) (fun t=>zax t 1 (pBin PP .add Aa (a.getD 0 undef) (.int .i64 1) fun aj=>some (.next,[aj],f)) (some (.exit t,[(a.getD 0 undef)],f))) (some (.ret,[(T.headD undef)],f))) (some (.exit 0,[(a.getD 0 undef)],h))
noncomputable def zbq(R:zaf)(c:Value)(d:Value)(e:Value)(a:List Value)(b:Hp):Option Outc:=pBin PP .lss Aa (a.getD 1 undef) e fun f=>zaa f fun g=>br g (pIdx 1 c (a.getD 1 undef) fun h=>zak 1 false b h fun i=>za7 PP Aa (.int .i64 0) d i false b fun j=>zal 1 [.int .i64 0] 1 [(0,j)] b fun k l=>zaF 1 8 (a.getD 0 undef) k l fun m n=>pBin PP .add Aa (a.getD 1 undef) (.int .i64 1) fun o=>some (.next,[m,o],n)) (some (.exit 4,[(a.getD 0 undef),(a.getD 1 undef)],b))
theorem zkT(R:zaf)(b f a g h:Value)(i:Hp):zgb R b f a g h i =
zae R At [b,a] i fun j c=>zac j 0 fun d=>zac j 1 fun k=>pBin PP .neq Ai k (.int .i64 0) fun q=>zaa q fun r=>br r (zaE PP AJ [(0,k)] fun s=>some ((.tuple #[(.slice none 0 0),(.iface AJ s)]),c)) (pLen .sl d c fun t=>zeo t (zbD c fun l m=>pLen .sl d m fun u=>zaw (zau (zbr R b f g h d l u) [(.int .i64 0)] m) fun v w e=>zaG v none (fun x=>zax x 0 (pLen .sl a e fun y=>zaY 1 8 [.int .i64 0] (.int .i64 0) y e fun z n=>pLen .sl a n fun A=>zaw (zau (zbq R a l A) [z,(.int .i64 0)] n) fun B o p=>zaG B none (fun C=>zax C 4 (some ((.tuple #[(o.getD 0 undef),.nilIface]),p)) (none)) (some ((o.headD undef),p))) (none)) (some ((w.headD undef),e)))):=by kernel_rfl
noncomputable def zaL(R:zaf)(d:Value)(a:List Value)(c:Hp):Option Outc:=br (Nat.blt (za1 ((a.drop 2).getD 0 undef)) (za4 ((a.drop 2).getD 0 undef)).size) (zc6 orc R d [(.int .i32 (Utf8.decode (za4 ((a.drop 2).getD 0 undef)) (za1 ((a.drop 2).getD 0 undef))).1)] c fun e b=>zaa e fun f=>br f (pBin PP .geq Aa (a.getD 1 undef) (.int .i64 0) fun g=>zaa g fun h=>br h (zaE PP A5 [(0,(a.getD 1 undef)),(1,(.int .i64 ((za1 ((a.drop 2).getD 0 undef)):Nat)))] fun i=>zal 2 [.int .i64 0,.int .i64 0] 1 [(0,i)] b fun j k=>zaF 2 16 (a.getD 0 undef) j k fun l m=>pUn .xor (a.getD 1 undef) fun n=>some (.next,[l,n,(.tuple #[.string (za4 ((a.drop 2).getD 0 undef)),.int .i64 (((za1 ((a.drop 2).getD 0 undef))+(Utf8.decode (za4 ((a.drop 2).getD 0 undef)) (za1 ((a.drop 2).getD 0 undef))).2):Nat)])],m)) (some (.next,[(a.getD 0 undef),(a.getD 1 undef),(.tuple #[.string (za4 ((a.drop 2).getD 0 undef)),.int .i64 (((za1 ((a.drop 2).getD 0 undef))+(Utf8.decode (za4 ((a.drop 2).getD 0 undef)) (za1 ((a.drop 2).getD 0 undef))).2):Nat)])],b))) (pBin PP .lss Aa (a.getD 1 undef) (.int .i64 0) fun o=>zaa o fun p=>br p (some (.next,[(a.getD 0 undef),(.int .i64 ((za1 ((a.drop 2).getD 0 undef)):Nat)),(.tuple #[.string (za4 ((a.drop 2).getD 0 undef)),.int .i64 (((za1 ((a.drop 2).getD 0 undef))+(Utf8.decode (za4 ((a.drop 2).getD 0 undef)) (za1 ((a.drop 2).getD 0 undef))).2):Nat)])],b)) (some (.next,[(a.getD 0 undef),(a.getD 1 undef),(.tuple #[.string (za4 ((a.drop 2).getD 0 undef)),.int .i64 (((za1 ((a.drop 2).getD 0 undef))+(Utf8.decode (za4 ((a.drop 2).getD 0 undef)) (za1 ((a.drop 2).getD 0 undef))).2):Nat)])],b)))) (some (.exit 0,[(a.getD 0 undef),(a.getD 1 undef),(.tuple #[.string (za4 ((a.drop 2).getD 0 undef)),.int .i64 ((za1 ((a.drop 2).getD 0 undef)):Nat)])],c))
noncomputable def zaS(R:zaf)(d:Value)(e:Value)(f:Value)(g:List Value)(a:List Value)(b:Hp):Option Outc:=pBin PP .lss Aa (a.getD 0 undef) f fun h=>zaa h fun i=>br i (pIdx 2 (g.getD 0 undef) (a.getD 0 undef) fun j=>zak 2 true b j fun k=>zaN 2 [.int .i64 0,.int .i64 0] 0 k fun c=>zaj 1 false c 0 fun l=>zaj 1 false c 1 fun m=>zbc d (some l) (some m) fun n=>pIdx 1 e (a.getD 0 undef) fun o=>zas 1 b o n fun p=>pBin PP .add Aa (a.getD 0 undef) (.int .i64 1) fun q=>some (.next,[q],p)) (some (.exit 2,[(a.getD 0 undef)],b))
theorem zfe(R:zaf)(b f:Value)(g:Hp):zde R b f g =
zaY 2 16 [.int .i64 0,.int .i64 0] (.int .i64 0) (.int .i64 32) g fun l m=>zjb b fun s3=>zaw (zau (zaL R f) [l,(.int .i64 (-1)),(.tuple #[.string s3,.int .i64 (0:Nat)])] m) fun n a c=>zaG n none (fun o=>zax o 0 (zaw (pBin PP .geq Aa (a.getD 1 undef) (.int .i64 0) fun p=>zaa p fun q=>br q (pLen .str b c fun r=>zaE PP A5 [(0,(a.getD 1 undef)),(1,r)] fun s=>zal 2 [.int .i64 0,.int .i64 0] 1 [(0,s)] c fun t u=>zaF 2 16 (a.getD 0 undef) t u fun v w=>some (.next,[v],w)) (some (.next,[(a.getD 0 undef)],c))) fun x d e=>zaG x (pLen .sl (d.getD 0 undef) e fun h=>zaY 1 16 [.string ⟨#[]⟩] h h e fun i j=>pLen .sl (d.getD 0 undef) j fun y=>zaw (zau (zaS R b i y d) [(.int .i64 0)] j) fun z A k=>zaG z none (fun B=>zax B 2 (some (i,k)) (none)) (some ((A.headD undef),k))) (fun C=>none) (some ((d.headD undef),e))) (none)) (some ((a.headD undef),c)):=by kernel_rfl
noncomputable def zaM(R:zaf)(e:Value)(f:Value)(b:Value)(a:List Value)(c:Hp):Option Outc:=pBin PP .lss Aa (a.getD 0 undef) f fun g=>zaa g fun h=>br h (zav 2 b fun i=>zav 3 b fun j=>zav 4 b fun k=>zaE PP A2 [(0,i),(1,j),(2,k)] fun l=>zcj 3 false 1 l (a.getD 0 undef) fun d=>zbk R Bq [e] c (fun m n=>some (.ret,[(W0 m)],n)) fun o p=>pNil d (zas 1 p d o fun q=>pBin PP .add Aa (a.getD 0 undef) (.int .i64 1) fun r=>some (.next,[r],q))) (some (.exit 1,[(a.getD 0 undef)],c))
theorem zgi(R:zaf)(a:Value)(k:Hp):zdO R a k =
zbk R Ap [a] k (fun x y=>some ((W0 x),y)) fun z A=>zbk R Bp [z] A (fun B C=>some ((W0 B),C)) fun D E=>zaE PP Am [(0,D)] fun F=>zcX [.int .i64 0,.int .i64 0,.int .i64 0,.int .i64 0,.int .i64 0,.int .u64 0,.string ⟨#[]⟩] E fun b G=>zas 7 G b F fun g=>zaw (zav 0 b fun H=>zak 1 false g H fun l=>pBin PP .eql Aa l (.int .i64 3) fun I=>zaa I fun J=>br J (zbk R An [a] g (fun K L=>some (.ret,[(W0 K)],L)) fun M N=>zav 1 b fun O=>zas 1 N O M fun P=>zbk R Ap [a] P (fun Q S=>some (.ret,[(W0 Q)],S)) fun T U=>zae R AL [T] U fun m n=>zac m 0 fun V=>zac m 1 fun W=>pBin PP .neq Ai W (.int .i64 0) fun X=>zaa X fun Y=>br Y (zaE PP Ad [(0,(.int .i64 3))] fun Z=>some (.ret,[(W0 (.iface Ad Z))],n)) (zav 5 b fun aa=>zas 1 n aa V fun ab=>some (.next,[],ab))) (pBin PP .eql Aa l (.int .i64 4) fun ac=>zaa ac fun ad=>br ad (zbk R Ap [a] g (fun ae af=>some (.ret,[(W0 ae)],af)) fun ag ah=>zav 6 b fun ai=>zas 1 ah ai ag fun aj=>zbk R An [a] aj (fun ak al=>some (.ret,[(W0 ak)],al)) fun am ao=>zav 1 b fun ap=>zas 1 ao ap am fun aq=>some (.next,[],aq)) (some (.next,[],g)))) fun ar au h=>zaG ar (zav 0 b fun av=>zak 1 false h av fun aw=>zae R Av [aw] h fun ax ay=>zaw (zau (zaM R a ax b) [(.int .i64 0)] ay) fun az ba f=>zaG az none (fun bb=>zax bb 1 (zaw (zav 0 b fun bc=>zak 1 false f bc fun d=>pBin PP .eql Aa d (.int .i64 31) fun bd=>zaa bd fun be=>br be (zbk R An [a] f (fun bf bg=>some (.ret,[(W0 bf)],bg)) fun bh bi=>zaq .u64 bh fun bj=>zav 5 b fun bk=>zas 1 bi bk bj fun bl=>zbk R An [a] bl (fun bm bn=>some (.ret,[(W0 bm)],bn)) fun bo bp=>zav 1 b fun bq=>zas 1 bp bq bo fun bs=>some (.next,[],bs)) (zaw (pBin PP .eql Aa d (.int .i64 32) fun bt=>zaa bt fun bu=>br bu (some (.next,[(.bool true)],f)) (pBin PP .eql Aa d (.int .i64 33) fun bv=>some (.next,[bv],f))) fun bw o c=>zaG bw (zaa (o.getD 0 undef) fun bx=>br bx (zbk R An [a] c (fun bz ca=>some (.ret,[(W0 bz)],ca)) fun cb cc=>zav 1 b fun cd=>zas 1 cc cd cb fun ce=>some (.next,[],ce)) (pBin PP .eql Aa d (.int .i64 14) fun cf=>zaa cf fun cg=>br cg (pNil a (zav 0 a fun ch=>zak 1 false c ch fun ci=>zav 3 b fun cj=>zak 1 false c cj fun ck=>zae R Al [ci,ck] c fun cl cm=>zav 1 b fun cn=>zas 1 cm cn cl fun co=>some (.next,[],co))) (pBin PP .eql Aa d (.int .i64 30) fun cp=>zaa cp fun cq=>br cq (pNil a (zav 0 a fun cr=>zak 1 false c cr fun cs=>zav 2 b fun ct=>zak 1 false c ct fun cu=>zae R Al [cs,cu] c fun cv i=>pNil a (zav 0 a fun p=>zak 1 false i p fun q=>chk (Hp.rdP c p 1 false=some q) (zav 3 b fun r=>zak 1 false i r fun s=>chk (Hp.rdP c r 1 false=some s) (zae R Al [q,s] i fun cw cx=>pBin PP .add Aa cv cw fun cy=>pMM false [cy,(.int .i64 65)] fun cz=>zav 1 b fun da=>zas 1 cx da cz fun j=>zav 1 b fun db=>zak 1 false j db fun dc=>pBin PP .gtr Aa dc (.int .i64 64) fun dd=>zaa dd fun de=>br de (zav 1 b fun df=>zas 1 j df (.int .i64 0) fun dg=>some (.next,[],dg)) (some (.next,[],j))))))) (pBin PP .geq Aa d (.int .i64 15) fun dh=>zaa dh fun di=>br di (pBin PP .leq Aa d (.int .i64 29) fun dj=>zaa dj fun dk=>br dk (pNil a (zav 0 a fun dl=>zak 1 false c dl fun dm=>zav 2 b fun dn=>zak 1 false c dn fun dp=>zae R Al [dm,dp] c fun dq dr=>zav 1 b fun ds=>zas 1 dr ds dq fun dt=>some (.next,[],dt))) (some (.next,[],c))) (some (.next,[],c)))))) (fun t=>zax t 3 (some (.next,[],c)) (some (.exit t,[],c))) (some (.ret,[(o.headD undef)],c)))) fun du dv e=>zaG du (pNil a (zav 1 a fun dw=>zak 1 false e dw fun dx=>pLen .sl dx e fun dy=>pBin PP .gtr Aa dy (.int .i64 0) fun dz=>zaa dz fun ea=>br ea (zaE PP Ad [(0,(.int .i64 3))] fun eb=>some ((W0 (.iface Ad eb)),e)) (pNil a (zav 0 a fun ec=>zak 1 false e ec fun ed=>zak 7 true e b fun ee=>zae R Ar [ed,ee] e fun u v=>zac u 0 fun ef=>zac u 1 fun w=>pBin PP .neq Ai w (.int .i64 0) fun eg=>zaa eg fun eh=>br eh (zaE PP Ad [(0,w)] fun ei=>some ((W0 (.iface Ad ei)),v)) (some ((W1 ef),v)))))) (fun ej=>none) (some ((dv.headD undef),e))) (none)) (some ((ba.headD undef),f))) (fun ek=>none) (some ((au.headD undef),h)):=by kernel_rfl
noncomputable def za9(R:zaf)(c:Value)(g:Value)(h:Value)(i:Value)(a:List Value)(d:Hp):Option Outc:=pBin PP .lss Aa (a.getD 1 undef) i fun j=>zaa j fun k=>br k (zae R A1 [(a.getD 0 undef),c] d fun b e=>pBin PP .lss Aa b (.int .i64 0) fun l=>zaa l fun m=>br m (some (.exit 0,[(a.getD 0 undef),(a.getD 1 undef)],e)) (pBin PP .add Aa b g fun n=>zbc (a.getD 0 undef) none (some n) fun o=>pIdx 1 h (a.getD 1 undef) fun p=>zas 1 e p o fun f=>pLen .str c f fun q=>pBin PP .add Aa b q fun r=>zbc (a.getD 0 undef) (some r) none fun s=>pBin PP .add Aa (a.getD 1 undef) (.int .i64 1) fun t=>some (.next,[s,t],f))) (some (.exit 0,[(a.getD 0 undef),(a.getD 1 undef)],d))
theorem zgj(R:zaf)(a d i b:Value)(c:Hp):zdQ R a d i b c =
pBin PP .eql Aa b (.int .i64 0) fun l=>zaa l fun m=>br m (some ((.slice none 0 0),c)) (pBin PP .eql Ac d (.string ⟨#[]⟩) fun n=>zaa n fun o=>br o (zae R Ca [a,b] c fun p q=>some (p,q)) (zaw (pBin PP .lss Aa b (.int .i64 0) fun r=>zaa r fun s=>br s (zae R Bi [a,d] c fun t u=>pBin PP .add Aa t (.int .i64 1) fun v=>some (.next,[v],u)) (some (.next,[b],c))) fun w j f=>zaG w (pLen .str a f fun x=>pBin PP .add Aa x (.int .i64 1) fun y=>pMM false [(j.getD 0 undef),y] fun g=>zaY 1 16 [.string ⟨#[]⟩] g g f fun h z=>pBin PP .sub Aa g (.int .i64 1) fun A=>zaw (zau (za9 R d i h A) [a,(.int .i64 0)] z) fun B e k=>zaG B none (fun C=>zax C 0 (pIdx 1 h (e.getD 1 undef) fun D=>zas 1 k D (e.getD 0 undef) fun E=>pBin PP .add Aa (e.getD 1 undef) (.int .i64 1) fun F=>zda 1 h none (some F) fun G=>some (G,E)) (none)) (some ((e.headD undef),k))) (fun H=>none) (some ((j.headD undef),f)))):=by kernel_rfl
noncomputable def zbj(R:zaf)(a:List Value)(b:Hp):Option Outc:=br (Nat.blt (za1 ((a.drop 0).getD 0 undef)) (za4 ((a.drop 0).getD 0 undef)).size) (pBin PP .eql Af (.int .i32 (Utf8.decode (za4 ((a.drop 0).getD 0 undef)) (za1 ((a.drop 0).getD 0 undef))).1) (.int .i32 95) fun c=>zaa c fun d=>br d (some (.ret,[(.tuple #[(.int .u64 0),(.int .i64 10)])],b)) (pBin PP .eql Af (.int .i32 (Utf8.decode (za4 ((a.drop 0).getD 0 undef)) (za1 ((a.drop 0).getD 0 undef))).1) (.int .i32 43) fun e=>zaa e fun f=>br f (some (.ret,[(.tuple #[(.int .u64 0),(.int .i64 10)])],b)) (pBin PP .eql Af (.int .i32 (Utf8.decode (za4 ((a.drop 0).getD 0 undef)) (za1 ((a.drop 0).getD 0 undef))).1) (.int .i32 45) fun g=>zaa g fun h=>br h (some (.ret,[(.tuple #[(.int .u64 0),(.int .i64 10)])],b)) (some (.next,[(.tuple #[.string (za4 ((a.drop 0).getD 0 undef)),.int .i64 (((za1 ((a.drop 0).getD 0 undef))+(Utf8.decode (za4 ((a.drop 0).getD 0 undef)) (za1 ((a.drop 0).getD 0 undef))).2):Nat)])],b))))) (some (.exit 0,[(.tuple #[.string (za4 ((a.drop 0).getD 0 undef)),.int .i64 ((za1 ((a.drop 0).getD 0 undef)):Nat)])],b))
theorem zkV(R:zaf)(a:Value)(b:Hp):zgg R a b =
zae R BK [a,(.string ⟨#[48,120]⟩)] b fun c d=>zac c 0 fun e=>zac c 1 fun k=>zaw (zaa k fun l=>br l (some (.next,[(.int .i64 16)],d)) (some (.next,[(.int .i64 10)],d))) fun m f g=>zaG m (zjb e fun s10=>zaw (zau (zbj R) [(.tuple #[.string s10,.int .i64 (0:Nat)])] g) fun n o h=>zaG n none (fun p=>zax p 0 (zae R Bh [e,(f.getD 0 undef),(.int .i64 64)] h fun i j=>zac i 0 fun q=>zac i 1 fun r=>zdu PP .neq AA r fun s=>zaa s fun t=>br t (some ((.tuple #[(.int .u64 0),(.int .i64 10)]),j)) (some ((.tuple #[q,(.int .i64 0)]),j))) (none)) (some ((o.headD undef),h))) (fun u=>none) (some ((f.headD undef),g)):=by kernel_rfl
noncomputable def zaJ(R:zaf)(c:Value)(d:Value)(e:Value)(a:List Value)(b:Hp):Option Outc:=pBin PP .lss Aa (a.getD 1 undef) d fun f=>zaa f fun g=>br g (pIdx 1 e (a.getD 1 undef) fun h=>zak 1 false b h fun i=>pBin PP .gtr Aa (a.getD 1 undef) (.int .i64 0) fun j=>zaa j fun k=>br k (pBin PP .eql Ac i c fun l=>zaa l fun m=>br m (some (.ret,[(W1 (a.getD 1 undef))],b)) (pBin PP .add Aa (a.getD 1 undef) (.int .i64 1) fun n=>some (.next,[(a.getD 0 undef),n],b))) (pBin PP .add Aa (a.getD 1 undef) (.int .i64 1) fun o=>some (.next,[(a.getD 0 undef),o],b))) (some (.exit 0,[(a.getD 0 undef),(a.getD 1 undef)],b))
theorem zhn(R:zaf)(a:Value)(b:Hp):zeC R a b =
zae R BN [] b fun c d=>pLen .sl c d fun f=>zaw (zau (zaJ R a f c) [(.int .i64 0),(.int .i64 0)] d) fun g h e=>zaG g none (fun i=>zax i 0 (zaE PP Ad [(0,(.int .i64 3))] fun j=>some ((W0 (.iface Ad j)),e)) (none)) (some ((h.headD undef),e)):=by kernel_rfl
noncomputable def zaI(R:zaf)(r:Value)(f:Value)(s:Value)(t:Value)(i:List Value)(u:List Value)(a:List Value)(g:Hp):Option Outc:=pBin PP .lss Aa (a.getD 2 undef) t fun v=>zaa v fun w=>br w (pIdx 1 s (a.getD 2 undef) fun x=>zak 1 false g x fun b=>zaw (zaw (pBin PP .eql Ah b (.int .u8 95) fun y=>zaa y fun z=>br z (some (.next,[r],g)) (some (.next,[(.bool false)],g))) fun A j d=>zaG A (zaa (j.getD 0 undef) fun B=>br B (some (.exit 4,[(.bool true),(.int .u8 0)],d)) (pBin PP .leq Ah (.int .u8 48) b fun C=>zaa C fun D=>br D (pBin PP .leq Ah b (.int .u8 57) fun E=>zaa E fun F=>br F (pBin PP .sub Ah b (.int .u8 48) fun G=>some (.next,[(a.getD 0 undef),G],d)) (zae R As [b] d fun H k=>pBin PP .leq Ah (.int .u8 97) H fun I=>zaa I fun J=>br J (zae R As [b] k fun K l=>pBin PP .leq Ah K (.int .u8 122) fun L=>zaa L fun M=>br M (zae R As [b] l fun N O=>pBin PP .sub Ah N (.int .u8 97) fun P=>pBin PP .add Ah P (.int .u8 10) fun Q=>some (.next,[(a.getD 0 undef),Q],O)) (some (.ret,[(.tuple #[(.int .u64 0),(.iface Ag (.int .i64 2))])],l))) (some (.ret,[(.tuple #[(.int .u64 0),(.iface Ag (.int .i64 2))])],k)))) (zae R As [b] d fun S m=>pBin PP .leq Ah (.int .u8 97) S fun T=>zaa T fun U=>br U (zae R As [b] m fun V n=>pBin PP .leq Ah V (.int .u8 122) fun W=>zaa W fun X=>br X (zae R As [b] n fun Y Z=>pBin PP .sub Ah Y (.int .u8 97) fun aa=>pBin PP .add Ah aa (.int .u8 10) fun ab=>some (.next,[(a.getD 0 undef),ab],Z)) (some (.ret,[(.tuple #[(.int .u64 0),(.iface Ag (.int .i64 2))])],n))) (some (.ret,[(.tuple #[(.int .u64 0),(.iface Ag (.int .i64 2))])],m))))) (fun o=>zax o 5 (some (.next,[(a.getD 0 undef),(.int .u8 0)],d)) (some (.exit o,[(a.getD 0 undef),(.int .u8 0)],d))) (some (.ret,[(j.headD undef)],d))) fun ac e c=>zaG ac (zaq .u8 (i.getD 1 undef) fun ad=>pBin PP .geq Ah (e.getD 1 undef) ad fun ae=>zaa ae fun af=>br af (some (.ret,[(.tuple #[(.int .u64 0),(.iface Ag (.int .i64 2))])],c)) (pBin PP .geq Ab (a.getD 1 undef) (u.getD 0 undef) fun ag=>zaa ag fun ah=>br ah (some (.ret,[(.tuple #[f,(.iface Ag (.int .i64 1))])],c)) (zaq .u64 (i.getD 1 undef) fun ai=>pBin PP .mul Ab (a.getD 1 undef) ai fun p=>zaq .u64 (e.getD 1 undef) fun aj=>pBin PP .add Ab p aj fun h=>pBin PP .lss Ab h p fun ak=>zaa ak fun al=>br al (some (.ret,[(.tuple #[f,(.iface Ag (.int .i64 1))])],c)) (pBin PP .gtr Ab h f fun am=>zaa am fun ao=>br ao (some (.ret,[(.tuple #[f,(.iface Ag (.int .i64 1))])],c)) (pBin PP .add Aa (a.getD 2 undef) (.int .i64 1) fun ap=>some (.next,[(e.getD 0 undef),h,ap],c)))))) (fun q=>zax q 4 (pBin PP .add Aa (a.getD 2 undef) (.int .i64 1) fun aq=>some (.next,[(e.getD 0 undef),(a.getD 1 undef),aq],c)) (some (.exit q,[(e.getD 0 undef),(a.getD 1 undef),(a.getD 2 undef)],c))) (some (.ret,[(e.headD undef)],c))) (some (.exit 3,[(a.getD 0 undef),(a.getD 1 undef),(a.getD 2 undef)],g))
theorem zb5(R:zaf)(a c g:Value)(i:Hp):zb4 R a c g i =
pBin PP .eql Ac a (.string ⟨#[]⟩) fun z=>zaa z fun A=>br A (some ((.tuple #[(.int .u64 0),(.iface Ag (.int .i64 2))]),i)) (pBin PP .eql Aa c (.int .i64 0) fun B=>zaw (zaw (pBin PP .leq Aa (.int .i64 2) c fun C=>zaa C fun D=>br D (pBin PP .leq Aa c (.int .i64 36) fun E=>some (.next,[E],i)) (some (.next,[(.bool false)],i))) fun F o b=>zaG F (zaa (o.getD 0 undef) fun G=>br G (some (.next,[a,c],b)) (pBin PP .eql Aa c (.int .i64 0) fun H=>zaa H fun I=>br I (zcs a (.int .i64 0) fun J=>pBin PP .eql Ah J (.int .u8 48) fun K=>zaa K fun L=>br L (zaw (pLen .str a b fun M=>pBin PP .geq Aa M (.int .i64 3) fun N=>zaa N fun O=>br O (zcs a (.int .i64 1) fun P=>zae R As [P] b fun Q S=>pBin PP .eql Ah Q (.int .u8 98) fun T=>some (.next,[T],S)) (some (.next,[(.bool false)],b))) fun U p d=>zaG U (zaa (p.getD 0 undef) fun V=>br V (zbc a (some (.int .i64 2)) none fun W=>some (.next,[W,(.int .i64 2)],d)) (zaw (pLen .str a d fun X=>pBin PP .geq Aa X (.int .i64 3) fun Y=>zaa Y fun Z=>br Z (zcs a (.int .i64 1) fun aa=>zae R As [aa] d fun ab ac=>pBin PP .eql Ah ab (.int .u8 111) fun ad=>some (.next,[ad],ac)) (some (.next,[(.bool false)],d))) fun ae q e=>zaG ae (zaa (q.getD 0 undef) fun af=>br af (zbc a (some (.int .i64 2)) none fun ag=>some (.next,[ag,(.int .i64 8)],e)) (pLen .str a e fun ah=>pBin PP .geq Aa ah (.int .i64 3) fun ai=>zaa ai fun aj=>br aj (zcs a (.int .i64 1) fun ak=>zae R As [ak] e fun al r=>pBin PP .eql Ah al (.int .u8 120) fun am=>zaa am fun ao=>br ao (zbc a (some (.int .i64 2)) none fun ap=>some (.next,[ap,(.int .i64 16)],r)) (zbc a (some (.int .i64 1)) none fun aq=>some (.next,[aq,(.int .i64 8)],r))) (zbc a (some (.int .i64 1)) none fun ar=>some (.next,[ar,(.int .i64 8)],e)))) (fun l=>zax l 1 (some (.next,[a,(.int .i64 10)],e)) (zax l 0 (some (.next,[a,(.int .i64 10)],e)) (some (.exit l,[a,(.int .i64 10)],e)))) (some (.ret,[(q.headD undef)],e)))) (fun m=>zax m 1 (some (.next,[a,(.int .i64 10)],d)) (zax m 0 (some (.next,[a,(.int .i64 10)],d)) (some (.exit m,[a,(.int .i64 10)],d)))) (some (.ret,[(p.headD undef)],d))) (some (.next,[a,(.int .i64 10)],b))) (some (.ret,[(.tuple #[(.int .u64 0),(.iface Ag (.int .i64 3))])],b)))) (fun s=>zax s 0 (some (.next,[a,c],b)) (some (.exit s,[a,c],b))) (some (.ret,[(o.headD undef)],b))) fun au f h=>zaG au (zaw (pBin PP .eql Aa g (.int .i64 0) fun av=>zaa av fun aw=>br aw (some (.next,[(.int .i64 64)],h)) (pBin PP .lss Aa g (.int .i64 0) fun ax=>zaa ax fun ay=>br ay (some (.ret,[(.tuple #[(.int .u64 0),(.iface Ag (.int .i64 4))])],h)) (pBin PP .gtr Aa g (.int .i64 64) fun az=>zaa az fun ba=>br ba (some (.ret,[(.tuple #[(.int .u64 0),(.iface Ag (.int .i64 4))])],h)) (some (.next,[g],h))))) fun bb t j=>zaG bb (zaw (pBin PP .eql Aa (f.getD 1 undef) (.int .i64 10) fun bc=>zaa bc fun bd=>br bd (some (.next,[(.int .u64 1844674407370955162)],j)) (pBin PP .eql Aa (f.getD 1 undef) (.int .i64 16) fun be=>zaa be fun bf=>br bf (some (.next,[(.int .u64 1152921504606846976)],j)) (zaq .u64 (f.getD 1 undef) fun bg=>pBin PP .quo Ab (.int .u64 18446744073709551615) bg fun bh=>pBin PP .add Ab bh (.int .u64 1) fun bi=>some (.next,[bi],j)))) fun bj u v=>zaG bj (zaq .u64 (t.getD 0 undef) fun bk=>pBin PP .shl Ab (.int .u64 1) bk fun bl=>pBin PP .sub Ab bl (.int .u64 1) fun bm=>zdk (f.getD 0 undef) v fun w x=>pLen .sl w x fun bn=>zaw (zau (zaI R B bm w bn f u) [(.bool false),(.int .u64 0),(.int .i64 0)] x) fun bo k n=>zaG bo none (fun bp=>zax bp 3 (zaa (k.getD 0 undef) fun bq=>br bq (zae R B1 [a] n fun bs y=>pUn .not bs fun bt=>zaa bt fun bu=>br bu (some ((.tuple #[(.int .u64 0),(.iface Ag (.int .i64 2))]),y)) (some ((.tuple #[(k.getD 1 undef),.nilIface]),y))) (some ((.tuple #[(k.getD 1 undef),.nilIface]),n))) (none)) (some ((k.headD undef),n))) (fun bv=>none) (some ((u.headD undef),v))) (fun bw=>none) (some ((t.headD undef),j))) (fun bx=>none) (some ((f.headD undef),h))):=by kernel_rfl
end Go.AM
namespace Go.AM
open Go
def HS(P:Program)(F:Nat→Option AObj):Hp:=⟨P.globals.size,fun i=>if i<P.globals.size then F i else none,fun _=>none⟩
def isInt:Value→Bool
 |.int _ _=>true
 |_=>false
theorem isInt_rel{β:Bt}{v:Value}(h:isInt v=true):VRel β v v:=by
 unfold isInt at h;split at h
 ·exact .int _ _
 ·cases h
theorem relStart{P:Program}{W:World}(h:P.globals.size≤W.heap.size){F:Nat→Option AObj}
  (hF:∀i o,F i=some o→(∃q,o=.fix q∧W.heap[i]?=some q)∨(∃cs,o=.cells cs false∧∀(j:Nat) v,cs[j]?=some v→isInt v=true∧W.cell? ⟨i,j,none⟩=some v)) :
  Rel P W (HS P F) (B00 P)∧(∀i o,(HS P F).get i=some o→o.own=false):=by
 have key:∀i o,(HS P F).get i=some o→i<P.globals.size∧F i=some o:=fun i o hi=>by
  have hi:(if i<P.globals.size then F i else none)=some o:=hi;split at hi
  ·exact⟨by assumption,hi⟩
  ·cases hi
 have hno:∀i o,(HS P F).get i=some o→o.own=false:=fun i o hi=>by rcases hF i o (key i o hi).2 with⟨q,rfl,_⟩|⟨cs,rfl,_⟩<;>rfl
 refine⟨⟨fun i cs own hi=>?_,fun i kv hi=>?_,fun i j o o' x y _ hi _ ho=>?_,fun i hi=>⟨?_,by unfold B00;rw[if_neg (by have:P.globals.size≤i:=hi;omega)]⟩,
  fun i x hx=>(by unfold B00 at hx;split at hx<;>cases hx;show i<_;omega),fun g hg=>⟨0,by unfold B00;rw[if_pos hg]⟩,fun i o hi=>?_,fun i T hi=>(by cases hi)⟩,hno⟩
 ·obtain⟨h1,h2⟩:=key i _ hi;rcases hF i _ h2 with⟨q,e,_⟩|⟨cs',e,hc⟩
  ·cases e
  ·cases e;refine⟨⟨i,0,0⟩,by unfold B00;rw[if_pos h1],fun j v hv=>?_,fun q=>by cases q⟩;obtain⟨c1,c2⟩:=hc j v hv;exact⟨v,by rw[Nat.zero_add];exact c2,isInt_rel c1⟩
 ·obtain⟨h1,h2⟩:=key i _ hi;rcases hF i _ h2 with⟨q,e,_⟩|⟨cs',e,hc⟩<;>cases e
 ·rw[hno i o hi]at ho;cases ho
 ·show (if i<P.globals.size then F i else none)=none;have:P.globals.size≤i:=hi;rw[if_neg (by omega)]
 ·obtain⟨h1,h2⟩:=key i _ hi;rcases hF i _ h2 with⟨q,e,hq⟩|⟨cs',e,hc⟩
  ·cases e;exact⟨⟨i,0,0⟩,by unfold B00;rw[if_pos h1],rfl,hq⟩
  ·cases e
end Go.AM
namespace Go.Proofs
open Go.Shelf
def Tryz.laysM246_ren:Go.Shelf.Ren:=⟨fun|246=>131|283=>150|284=>151|285=>152|286=>153|129=>164|317=>163|318=>165|319=>166|320=>167|337=>182|338=>183|n=>n,fun|2=>2|3=>3|9=>9|4=>4|171=>223|0=>0|53=>38|37=>119|5=>5|173=>225|212=>235|51=>207|20=>20|213=>236|46=>63|232=>265|233=>266|n=>n,fun|17=>3|18=>9|19=>10|n=>n⟩
theorem Tryz.laysM246:Go.Proofs.LaysM.n246 Tryz.prog Tryz.laysM246_ren:={
 mixed:=by kernel_rfl
 f129:=Tryz.func164.trans (congrArg some (by kernel_rfl))
 f246:=Tryz.func131.trans (congrArg some (by kernel_rfl))
 f283:=Tryz.func150.trans (congrArg some (by kernel_rfl))
 f284:=Tryz.func151.trans (congrArg some (by kernel_rfl))
 f285:=Tryz.func152.trans (congrArg some (by kernel_rfl))
 f286:=Tryz.func153.trans (congrArg some (by kernel_rfl))
 f317:=Tryz.func163.trans (congrArg some (by kernel_rfl))
 f318:=Tryz.func165.trans (congrArg some (by kernel_rfl))
 f319:=Tryz.func166.trans (congrArg some (by kernel_rfl))
 f320:=Tryz.func167.trans (congrArg some (by kernel_rfl))
 f337:=Tryz.func182.trans (congrArg some (by kernel_rfl))
 f338:=Tryz.func183.trans (congrArg some (by kernel_rfl))
 t0:=Tryz.underlying0
 a0:=Tryz.isAgg0
 z0:=Tryz.sizeOf0
 v0:=Tryz.zeroValue0
 t2:=Tryz.underlying2
 a2:=Tryz.isAgg2
 z2:=Tryz.sizeOf2
 v2:=Tryz.zeroValue2
 t3:=Tryz.underlying3
 a3:=Tryz.isAgg3
 z3:=Tryz.sizeOf3
 v3:=Tryz.zeroValue3
 t4:=Tryz.underlying4
 a4:=Tryz.isAgg4
 z4:=Tryz.sizeOf4
 v4:=Tryz.zeroValue4
 t5:=Tryz.underlying5
 a5:=Tryz.isAgg5
 z5:=Tryz.sizeOf5
 v5:=Tryz.zeroValue5
 t9:=Tryz.underlying9
 a9:=Tryz.isAgg9
 z9:=Tryz.sizeOf9
 v9:=Tryz.zeroValue9
 t20:=Tryz.underlying20
 a20:=Tryz.isAgg20
 z20:=Tryz.sizeOf20
 v20:=Tryz.zeroValue20
 t37:=Tryz.underlying119
 a37:=Tryz.isAgg119
 z37:=Tryz.sizeOf119
 v37:=Tryz.zeroValue119
 t46:=Tryz.underlying63
 a46:=Tryz.isAgg63
 z46:=Tryz.sizeOf63
 v46:=Tryz.zeroValue63
 t51:=Tryz.underlying207
 a51:=Tryz.isAgg207
 z51:=Tryz.sizeOf207
 v51:=Tryz.zeroValue207
 t53:=Tryz.underlying38
 a53:=Tryz.isAgg38
 z53:=Tryz.sizeOf38
 v53:=Tryz.zeroValue38
 t171:=Tryz.underlying223
 a171:=Tryz.isAgg223
 z171:=Tryz.sizeOf223
 v171:=Tryz.zeroValue223
 t173:=Tryz.underlying225
 a173:=Tryz.isAgg225
 z173:=Tryz.sizeOf225
 v173:=Tryz.zeroValue225
 t212:=Tryz.underlying235
 a212:=Tryz.isAgg235
 z212:=Tryz.sizeOf235
 v212:=Tryz.zeroValue235
 t213:=Tryz.underlying236
 a213:=Tryz.isAgg236
 z213:=Tryz.sizeOf236
 t232:=Tryz.underlying265
 a232:=Tryz.isAgg265
 z232:=Tryz.sizeOf265
 v232:=Tryz.zeroValue265
 t233:=Tryz.underlying266
 a233:=Tryz.isAgg266
 z233:=Tryz.sizeOf266
 v233:=Tryz.zeroValue266
 g17:=by kernel_rfl
 g18:=by kernel_rfl
 g19:=by kernel_rfl
 i0:=by kernel_rfl
 i2:=by kernel_rfl
 i3:=by kernel_rfl
 i4:=by kernel_rfl
 i5:=by kernel_rfl
 i9:=by kernel_rfl
 i20:=by kernel_rfl
 i37:=by kernel_rfl
 i46:=by kernel_rfl
 i51:=by kernel_rfl
 i53:=by kernel_rfl
 i171:=by kernel_rfl
 i173:=by kernel_rfl
 i212:=by kernel_rfl
 i232:=by kernel_rfl
 i233:=by kernel_rfl
 m17:=by kernel_rfl
 m18:=by kernel_rfl
 m19:=by kernel_rfl }
open Go.RowKit Go.Sort Go.Lib in
theorem Tryz.internal_strconv_FormatInt_10(n:Int)(h0:-9223372036854775808≤n)(h1:n≤9223372036854775807)(w:World)(htab:Lib.TabIs Tryz.prog w "internal/strconv.uint64pow10" .u64 Lib.pow10Tab) :
  Calls Tryz.prog 131 #[.int .i64 n,.int .i64 10] w fun e w'=>e=.returned (.string ⟨(Lib.itoa n).toArray⟩)∧∃k os,w'=grow (w.drewN k) os:=Any.internal_strconv_FormatInt_10 Tryz.laysM246 n h0 h1 w htab
def Tryz.laysC245_ren:Go.Shelf.Ren:=⟨fun|245=>161|279=>178|280=>179|281=>180|282=>181|316=>186|171=>59|205=>187|243=>98|246=>131|283=>150|284=>151|285=>152|286=>153|129=>164|317=>163|318=>165|319=>166|320=>167|337=>182|338=>183|n=>n,fun|9=>9|3=>3|75=>114|167=>249|4=>4|168=>251|210=>263|37=>119|0=>0|127=>171|145=>269|143=>267|2=>2|171=>223|53=>38|5=>5|173=>225|212=>235|51=>207|20=>20|213=>236|46=>63|232=>265|233=>266|80=>128|n=>n,fun|15=>7|16=>8|17=>3|18=>9|19=>10|n=>n⟩
theorem Tryz.laysC245:Go.Proofs.LaysC.n245 Tryz.prog Tryz.laysC245_ren:={
 mixed:=by kernel_rfl
 f129:=Tryz.func164.trans (congrArg some (by kernel_rfl))
 f171:=Tryz.func59.trans (congrArg some (by kernel_rfl))
 f205:=Tryz.func187.trans (congrArg some (by kernel_rfl))
 f243:=Tryz.func98.trans (congrArg some (by kernel_rfl))
 f245:=Tryz.func161.trans (congrArg some (by kernel_rfl))
 f246:=Tryz.func131.trans (congrArg some (by kernel_rfl))
 f279:=Tryz.func178.trans (congrArg some (by kernel_rfl))
 f280:=Tryz.func179.trans (congrArg some (by kernel_rfl))
 f281:=Tryz.func180.trans (congrArg some (by kernel_rfl))
 f282:=Tryz.func181.trans (congrArg some (by kernel_rfl))
 f283:=Tryz.func150.trans (congrArg some (by kernel_rfl))
 f284:=Tryz.func151.trans (congrArg some (by kernel_rfl))
 f285:=Tryz.func152.trans (congrArg some (by kernel_rfl))
 f286:=Tryz.func153.trans (congrArg some (by kernel_rfl))
 f316:=Tryz.func186.trans (congrArg some (by kernel_rfl))
 f317:=Tryz.func163.trans (congrArg some (by kernel_rfl))
 f318:=Tryz.func165.trans (congrArg some (by kernel_rfl))
 f319:=Tryz.func166.trans (congrArg some (by kernel_rfl))
 f320:=Tryz.func167.trans (congrArg some (by kernel_rfl))
 f337:=Tryz.func182.trans (congrArg some (by kernel_rfl))
 f338:=Tryz.func183.trans (congrArg some (by kernel_rfl))
 t0:=Tryz.underlying0
 a0:=Tryz.isAgg0
 z0:=Tryz.sizeOf0
 v0:=Tryz.zeroValue0
 t2:=Tryz.underlying2
 a2:=Tryz.isAgg2
 z2:=Tryz.sizeOf2
 v2:=Tryz.zeroValue2
 t3:=Tryz.underlying3
 a3:=Tryz.isAgg3
 z3:=Tryz.sizeOf3
 v3:=Tryz.zeroValue3
 t4:=Tryz.underlying4
 a4:=Tryz.isAgg4
 z4:=Tryz.sizeOf4
 v4:=Tryz.zeroValue4
 t5:=Tryz.underlying5
 a5:=Tryz.isAgg5
 z5:=Tryz.sizeOf5
 v5:=Tryz.zeroValue5
 t9:=Tryz.underlying9
 a9:=Tryz.isAgg9
 z9:=Tryz.sizeOf9
 v9:=Tryz.zeroValue9
 t20:=Tryz.underlying20
 a20:=Tryz.isAgg20
 z20:=Tryz.sizeOf20
 v20:=Tryz.zeroValue20
 t37:=Tryz.underlying119
 a37:=Tryz.isAgg119
 z37:=Tryz.sizeOf119
 v37:=Tryz.zeroValue119
 t46:=Tryz.underlying63
 a46:=Tryz.isAgg63
 z46:=Tryz.sizeOf63
 v46:=Tryz.zeroValue63
 t51:=Tryz.underlying207
 a51:=Tryz.isAgg207
 z51:=Tryz.sizeOf207
 v51:=Tryz.zeroValue207
 t53:=Tryz.underlying38
 a53:=Tryz.isAgg38
 z53:=Tryz.sizeOf38
 v53:=Tryz.zeroValue38
 t75:=Tryz.underlying114
 a75:=Tryz.isAgg114
 z75:=Tryz.sizeOf114
 v75:=Tryz.zeroValue114
 t127:=Tryz.underlying171
 a127:=Tryz.isAgg171
 z127:=Tryz.sizeOf171
 v127:=Tryz.zeroValue171
 t143:=Tryz.underlying267
 a143:=Tryz.isAgg267
 z143:=Tryz.sizeOf267
 v143:=Tryz.zeroValue267
 t145:=Tryz.underlying269
 a145:=Tryz.isAgg269
 z145:=Tryz.sizeOf269
 v145:=Tryz.zeroValue269
 t167:=Tryz.underlying249
 a167:=Tryz.isAgg249
 z167:=Tryz.sizeOf249
 v167:=Tryz.zeroValue249
 t168:=Tryz.underlying251
 a168:=Tryz.isAgg251
 z168:=Tryz.sizeOf251
 v168:=Tryz.zeroValue251
 t171:=Tryz.underlying223
 a171:=Tryz.isAgg223
 z171:=Tryz.sizeOf223
 v171:=Tryz.zeroValue223
 t173:=Tryz.underlying225
 a173:=Tryz.isAgg225
 z173:=Tryz.sizeOf225
 v173:=Tryz.zeroValue225
 t210:=Tryz.underlying263
 a210:=Tryz.isAgg263
 z210:=Tryz.sizeOf263
 v210:=Tryz.zeroValue263
 t212:=Tryz.underlying235
 a212:=Tryz.isAgg235
 z212:=Tryz.sizeOf235
 v212:=Tryz.zeroValue235
 t213:=Tryz.underlying236
 a213:=Tryz.isAgg236
 z213:=Tryz.sizeOf236
 t232:=Tryz.underlying265
 a232:=Tryz.isAgg265
 z232:=Tryz.sizeOf265
 v232:=Tryz.zeroValue265
 t233:=Tryz.underlying266
 a233:=Tryz.isAgg266
 z233:=Tryz.sizeOf266
 v233:=Tryz.zeroValue266
 g15:=by kernel_rfl
 g16:=by kernel_rfl
 g17:=by kernel_rfl
 g18:=by kernel_rfl
 g19:=by kernel_rfl
 t80:=Tryz.underlying128
 a80:=Tryz.isAgg128
 z80:=Tryz.sizeOf128
 v80:=Tryz.zeroValue128
 i0:=by kernel_rfl
 i2:=by kernel_rfl
 i3:=by kernel_rfl
 i4:=by kernel_rfl
 i5:=by kernel_rfl
 i9:=by kernel_rfl
 i20:=by kernel_rfl
 i37:=by kernel_rfl
 i46:=by kernel_rfl
 i51:=by kernel_rfl
 i53:=by kernel_rfl
 i75:=by kernel_rfl
 i80:=by kernel_rfl
 i127:=by kernel_rfl
 i143:=by kernel_rfl
 i145:=by kernel_rfl
 i167:=by kernel_rfl
 i168:=by kernel_rfl
 i171:=by kernel_rfl
 i173:=by kernel_rfl
 i210:=by kernel_rfl
 i212:=by kernel_rfl
 i232:=by kernel_rfl
 i233:=by kernel_rfl
 m15:=by kernel_rfl
 m16:=by kernel_rfl
 m17:=by kernel_rfl
 m18:=by kernel_rfl
 m19:=by kernel_rfl
 c0:=by kernel_rfl
 c2:=by kernel_rfl
 c3:=by kernel_rfl
 c4:=by kernel_rfl
 c5:=by kernel_rfl
 c9:=by kernel_rfl
 c20:=by kernel_rfl
 c37:=by kernel_rfl
 c46:=by kernel_rfl
 c51:=by kernel_rfl
 c53:=by kernel_rfl
 c75:=by kernel_rfl
 c80:=by kernel_rfl
 c127:=by kernel_rfl
 c143:=by kernel_rfl
 c145:=by kernel_rfl
 c167:=by kernel_rfl
 c168:=by kernel_rfl
 c171:=by kernel_rfl
 c173:=by kernel_rfl
 c210:=by kernel_rfl
 c212:=by kernel_rfl
 c213:=by kernel_rfl
 c232:=by kernel_rfl
 c233:=by kernel_rfl }
open Go.RowKit in
theorem Tryz.strconv_toError_syntax(fn s:ByteArray)(base bits:Int)(ev:Value)(w:World)(hlim:s.size≤281474976710656)(hv:w.cell? ⟨7,0,none⟩=some ev)(hev:ev=.nilIface∨∃te pe,ev=.iface te pe) :
  Calls Tryz.prog 161 #[.string fn,.string s,.int .i64 base,.int .i64 bits,.iface 249 (.int .i64 2)] w fun e w'=>∃N,e=.returned (.iface 251 (.pointer (some ⟨N,0,none⟩)))∧w.heap.size≤N∧w'.heap[N]?=some (.cells #[.string fn,.string s,ev] 263 (0,0))∧Below w.heap.size w w':=Any.strconv_toError_syntax Tryz.laysC245 fn s base bits ev w hlim hv hev
open Go.RowKit in
theorem Tryz.strconv_toError_range(fn s:ByteArray)(base bits:Int)(ev:Value)(w:World)(hlim:s.size≤281474976710656)(hv:w.cell? ⟨8,0,none⟩=some ev)(hev:ev=.nilIface∨∃te pe,ev=.iface te pe) :
  Calls Tryz.prog 161 #[.string fn,.string s,.int .i64 base,.int .i64 bits,.iface 249 (.int .i64 1)] w fun e w'=>∃N,e=.returned (.iface 251 (.pointer (some ⟨N,0,none⟩)))∧w.heap.size≤N∧w'.heap[N]?=some (.cells #[.string fn,.string s,ev] 263 (0,0))∧Below w.heap.size w w':=Any.strconv_toError_range Tryz.laysC245 fn s base bits ev w hlim hv hev
def Tryz.laysM157_ren:Go.Shelf.Ren:=⟨fun|157=>99|229=>67|199=>132|261=>154|311=>168|312=>169|n=>n,fun|9=>9|31=>69|3=>3|5=>5|4=>4|119=>196|0=>0|40=>136|152=>173|21=>21|154=>175|51=>207|141=>228|196=>240|193=>237|198=>243|49=>241|194=>238|201=>246|226=>254|46=>63|227=>255|n=>n,fun|0=>1|6=>2|n=>n⟩
theorem Tryz.laysM157:Go.Proofs.LaysM.n157 Tryz.prog Tryz.laysM157_ren:={
 mixed:=by kernel_rfl
 f157:=Tryz.func99.trans (congrArg some (by kernel_rfl))
 f199:=Tryz.func132.trans (congrArg some (by kernel_rfl))
 f229:=Tryz.func67.trans (congrArg some (by kernel_rfl))
 f261:=Tryz.func154.trans (congrArg some (by kernel_rfl))
 f311:=Tryz.func168.trans (congrArg some (by kernel_rfl))
 f312:=Tryz.func169.trans (congrArg some (by kernel_rfl))
 t0:=Tryz.underlying0
 a0:=Tryz.isAgg0
 z0:=Tryz.sizeOf0
 v0:=Tryz.zeroValue0
 t3:=Tryz.underlying3
 a3:=Tryz.isAgg3
 z3:=Tryz.sizeOf3
 v3:=Tryz.zeroValue3
 t4:=Tryz.underlying4
 a4:=Tryz.isAgg4
 z4:=Tryz.sizeOf4
 v4:=Tryz.zeroValue4
 t5:=Tryz.underlying5
 a5:=Tryz.isAgg5
 z5:=Tryz.sizeOf5
 v5:=Tryz.zeroValue5
 t9:=Tryz.underlying9
 a9:=Tryz.isAgg9
 z9:=Tryz.sizeOf9
 v9:=Tryz.zeroValue9
 t21:=Tryz.underlying21
 a21:=Tryz.isAgg21
 z21:=Tryz.sizeOf21
 v21:=Tryz.zeroValue21
 t31:=Tryz.underlying69
 a31:=Tryz.isAgg69
 z31:=Tryz.sizeOf69
 v31:=Tryz.zeroValue69
 t40:=Tryz.underlying136
 a40:=Tryz.isAgg136
 z40:=Tryz.sizeOf136
 v40:=Tryz.zeroValue136
 t46:=Tryz.underlying63
 a46:=Tryz.isAgg63
 z46:=Tryz.sizeOf63
 v46:=Tryz.zeroValue63
 t49:=Tryz.underlying241
 a49:=Tryz.isAgg241
 z49:=Tryz.sizeOf241
 v49:=Tryz.zeroValue241
 t51:=Tryz.underlying207
 a51:=Tryz.isAgg207
 z51:=Tryz.sizeOf207
 v51:=Tryz.zeroValue207
 t119:=Tryz.underlying196
 a119:=Tryz.isAgg196
 z119:=Tryz.sizeOf196
 t141:=Tryz.underlying228
 a141:=Tryz.isAgg228
 z141:=Tryz.sizeOf228
 v141:=Tryz.zeroValue228
 t152:=Tryz.underlying173
 a152:=Tryz.isAgg173
 z152:=Tryz.sizeOf173
 v152:=Tryz.zeroValue173
 t154:=Tryz.underlying175
 a154:=Tryz.isAgg175
 z154:=Tryz.sizeOf175
 v154:=Tryz.zeroValue175
 t193:=Tryz.underlying237
 a193:=Tryz.isAgg237
 z193:=Tryz.sizeOf237
 v193:=Tryz.zeroValue237
 t194:=Tryz.underlying238
 a194:=Tryz.isAgg238
 z194:=Tryz.sizeOf238
 v194:=Tryz.zeroValue238
 t196:=Tryz.underlying240
 a196:=Tryz.isAgg240
 z196:=Tryz.sizeOf240
 v196:=Tryz.zeroValue240
 t198:=Tryz.underlying243
 a198:=Tryz.isAgg243
 z198:=Tryz.sizeOf243
 v198:=Tryz.zeroValue243
 t201:=Tryz.underlying246
 a201:=Tryz.isAgg246
 z201:=Tryz.sizeOf246
 v201:=Tryz.zeroValue246
 t226:=Tryz.underlying254
 a226:=Tryz.isAgg254
 z226:=Tryz.sizeOf254
 v226:=Tryz.zeroValue254
 t227:=Tryz.underlying255
 a227:=Tryz.isAgg255
 z227:=Tryz.sizeOf255
 v227:=Tryz.zeroValue255
 g0:=by kernel_rfl
 g6:=by kernel_rfl
 i0:=by kernel_rfl
 i3:=by kernel_rfl
 i4:=by kernel_rfl
 i5:=by kernel_rfl
 i9:=by kernel_rfl
 i21:=by kernel_rfl
 i31:=by kernel_rfl
 i40:=by kernel_rfl
 i46:=by kernel_rfl
 i49:=by kernel_rfl
 i51:=by kernel_rfl
 i141:=by kernel_rfl
 i152:=by kernel_rfl
 i154:=by kernel_rfl
 i193:=by kernel_rfl
 i194:=by kernel_rfl
 i196:=by kernel_rfl
 i198:=by kernel_rfl
 i201:=by kernel_rfl
 i226:=by kernel_rfl
 i227:=by kernel_rfl
 m0:=by kernel_rfl
 m6:=by kernel_rfl }
open Go.RowKit Go.Lib in
theorem Tryz.strings_Fields_laid(s:ByteArray)(w:World)(hs:s.size<4294967281)(hascii:∀(j:Nat) b,s.data.toList[j]?=some b→b.toNat<128)(htab:Lib.TabIs Tryz.prog w "strings.asciiSpace" .u8 Lib.asciiSpaceTab) :
  Calls Tryz.prog 99 #[.string s] w fun e w'=>
   e=.returned (.slice (some ⟨w.heap.size,0,none⟩) (Lib.fields s.data.toList).length (Lib.fields s.data.toList).length)∧w'=w.alloc (.cells ((Lib.fields s.data.toList).map fun l=>Value.string ⟨l.toArray⟩).toArray 9):=Any.strings_Fields_laid Tryz.laysM157 s w hs hascii htab
end Go.Proofs
namespace Go.AM
open List Go
def zkg(k:IntKind):List Value→List Int→Bool
 |[],[]=>true
 |.int k' a::r,b::s=>decide (k'=k)&&decide (a=b)&&zkg k r s
 |_,_=>false
theorem znG{k:IntKind}:∀(l:List Value) (s:List Int),zkg k l s=true→l=s.map fun z=>Value.int k z
 |[],[],_=>rfl
 |[],_::_,h=>by cases h
 |_::_,[],h=>by unfold zkg at h;split at h<;>simp_all
 |v::r,b::s,h=>by
  unfold zkg at h;split at h
  ·rename_i e1 e2;cases e1
  ·rename_i k' a r' b' s' e1 e2;cases e1;cases e2;rw[Bool.and_eq_true,Bool.and_eq_true,decide_eq_true_eq,decide_eq_true_eq]at h;rw[znG r s h.2,h.1.1,h.1.2];rfl
  ·cases h
def zo4:List Int:=Go.Lib.pow10Tab
def zjm:List Int:=Go.Lib.asciiSpaceTab
def extFmt(args:List Value)(H:Hp):Option (Value×Hp):=
 match args with
 |[.int .i64 n,.int .i64 10]=>if -9223372036854775808≤n∧n≤9223372036854775807 then
   match H.get AE with
   |some (.fix (.cells cs _ _))=>match zkg .u64 cs.toList zo4 with
    |true=>some (.string ⟨(Go.Lib.itoa n).toArray⟩,H)
    |false=>none
   |_=>none
  else none
 |_=>none
def ziK(args:List Value)(H:Hp):Option (Value×Hp):=
 match args with
 |[.string s]=>if s.size<4294967281∧s.data.toList.all (fun b=>decide (b.toNat<128))=true then
   match H.get AD with
   |some (.fix (.cells cs _ _))=>match zkg .u8 cs.toList zjm with
    |true=>some (.slice (some ⟨H.next,0,some 1⟩) (Go.Lib.fields s.data.toList).length (Go.Lib.fields s.data.toList).length,H.new (.cells ((Go.Lib.fields s.data.toList).map fun l=>Value.string ⟨l.toArray⟩) true))
    |false=>none
   |_=>none
  else none
 |_=>none
def Hp.skip(H:Hp):Hp:=⟨H.next+1,H.get,H.ty⟩
def isErr:List Value→Bool
 |.iface _ _::_=>true
 |_=>false
def zmh(args:List Value)(H:Hp):Option (Value×Hp):=
 match args with
 |[.string fn,.string s,.int .i64 _,.int .i64 _,.iface t (.int .i64 c)]=>if t=Ag∧s.size≤281474976710656∧(c=1∨c=2) then
   match H.get (if c=2 then Aw else Ax) with
   |some (.fix (.cells cs _ _))=>match isErr cs.toList with
    |true=>some (.iface BR (.pointer (some ⟨H.next,0,none⟩)),H.skip)
    |false=>none
   |_=>none
  else none
 |_=>none
def E0:FuncId→Option (List Value→Hp→Option (Value×Hp)):=fun f=>
 if f=B9 then some extFmt else if f=Bj then some ziK else if f=B3 then some extCC else if f=B2 then some extStr
 else if f=A0 then some zmh else none
noncomputable abbrev RR:zaf:=run PP orc E0
theorem zlu{P:Program}{w w':World}{H:Hp}{β:Bt}(h:Rel P w H β)(ho:w'.os=w.os)(ht:w'.tape=w.tape)(hu:w'.output=w.output)(hs:w.heap.size≤w'.heap.size)(hp:∀b,b<w.heap.size→w'.heap[b]?=w.heap[b]?) :
  Rel P w' H β∧Ext w.heap.size w H β w' H β:=
 ⟨h.frame hs fun i x hx=>hp _ (h.lt i x hx),ho,ht,hu,hs,Bt.le_refl _,Nat.le_refl _,fun b hb _=>hp b hb,fun b q=>.inr q,fun i x hx e=>by rw[hx]at e;cases e⟩
theorem Rel.skip{P:Program}{w:World}{H:Hp}{β:Bt}(h:Rel P w H β){b:Nat}(hb:b<w.heap.size)(t:Nat):Rel P w H.skip (β.set H.next ⟨b,0,t⟩)∧β.le (β.set H.next ⟨b,0,t⟩):=by
 have hf:=(h.fresh H.next (Nat.le_refl _)).2;have hle:β.le (β.set H.next ⟨b,0,t⟩):=Bt.le_set hf;have old:∀{i o y},H.get i=some o→(β.set H.next ⟨b,0,t⟩) i=some y→β i=some y:=fun {i o y} hi hy=>by obtain⟨z,hz⟩:=h.has i o hi;rw[hle i z hz]at hy;cases hy;exact hz
 refine⟨⟨fun i ds own hi=>?_,fun i kv hi=>?_,fun i j o o' x y hij hi hj ho hx hy=>h.apart i j o o' x y hij hi hj ho (old hi hx) (old hj hy),fun i hi=>?_,fun i x hx=>?_,fun g hg=>?_,fun i o hi=>?_,fun i T hi=>(h.tys i T hi).le hle⟩,hle⟩
 ·obtain⟨x,hx,h1,h2⟩:=h.cells i ds own hi;exact⟨x,hle i x hx,fun j v hv=>by obtain⟨v',h3,h4⟩:=h1 j v hv;exact⟨v',h3,h4.mono hle⟩,h2⟩
 ·obtain⟨x,hx,es,clock,h1,h2,h3⟩:=h.maps i kv hi;exact⟨x,hle i x hx,es,clock,h1,h2.mono hle,h3⟩
 ·have hi:H.next+1≤i:=hi;have:=h.fresh i (by omega);exact⟨this.1,by unfold Bt.set;rw[if_neg (by omega)];exact this.2⟩
 ·unfold Bt.set at hx;split at hx
  ·cases hx;exact hb
  ·exact h.lt i x hx
 ·obtain⟨t',ht⟩:=h.glob g hg;exact⟨t',hle g _ ht⟩
 ·obtain⟨x,hx,h1,h2⟩:=h.fix i o hi;exact⟨x,hle i x hx,h1,h2⟩
theorem LRel.two{β:Bt}{a b:Value}{l:List Value}(h:LRel β [a,b] l):∃a' b',l=[a',b']∧VRel β a a'∧VRel β b b':=by
 obtain⟨hl,hv⟩:=h
 match l,hl with
 |[x,y],_=>exact⟨x,y,rfl,hv 0 _ _ rfl rfl,hv 1 _ _ rfl rfl⟩
theorem LRel.five{β:Bt}{a b c d e:Value}{l:List Value}(h:LRel β [a,b,c,d,e] l):∃a' b' c' d' e',l=[a',b',c',d',e']∧VRel β a a'∧VRel β b b'∧VRel β c c'∧VRel β d d'∧VRel β e e':=by
 obtain⟨hl,hv⟩:=h
 match l,hl with
 |[x,y,z,u,v],_=>exact⟨x,y,z,u,v,rfl,hv 0 _ _ rfl rfl,hv 1 _ _ rfl rfl,hv 2 _ _ rfl rfl,hv 3 _ _ rfl rfl,hv 4 _ _ rfl rfl⟩
theorem tabIs{w:World}{H:Hp}{β:Bt}(hR:Rel PP w H β){name:String}{g:Nat}(hg:PP.globalNamed name=some g)(hlt:g<PP.globals.size){cs:Array Value}{e:TypeId}{fz:Nat×Nat}(h:H.get g=some (.fix (.cells cs e fz))){k:IntKind}{zs:List Int}
  (ht:zkg k cs.toList zs=true):Go.Lib.TabIs PP w name k zs:=by
 obtain⟨x,hx,_,hx2⟩:=hR.fix g _ h;obtain⟨t,ht2⟩:=hR.glob g hlt;rw[hx]at ht2;cases ht2;unfold Go.Lib.TabIs World.var?;rw[hg];have hx2:w.heap[g]?=some (.cells cs e fz):=hx2;show (match w.heap[g]? with|some (.cells cs _ _)=>some cs|_=>none)=_;rw[hx2];dsimp only;congr 1;apply Array.ext';rw[znG _ _ ht]
theorem zjc:PP.globals.size=12:=by kernel_rfl
theorem named_pow:PP.globalNamed "internal/strconv.uint64pow10" = some AE:=by kernel_rfl
theorem named_spc:PP.globalNamed "strings.asciiSpace" = some AD:=by kernel_rfl
theorem errIs{w:World}{H:Hp}{β:Bt}(hR:Rel PP w H β){g:Nat}(hlt:g<PP.globals.size){cs:Array Value}{e:TypeId}{fz:Nat×Nat}(h:H.get g=some (.fix (.cells cs e fz)))(ht:isErr cs.toList=true) :
  ∃te pe,w.cell? ⟨g,0,none⟩=some (.iface te pe):=by
 obtain⟨x,hx,_,hx2⟩:=hR.fix g _ h;obtain⟨t,ht2⟩:=hR.glob g hlt;rw[hx]at ht2;cases ht2;obtain⟨l⟩:=cs;cases l with
 |nil=>cases ht
 |cons v r=>
  cases v with
  |iface te pe=>exact⟨te,pe,zcb.2 ⟨_,e,fz,hx2,rfl⟩⟩
  |_=>cases ht
theorem extErr_ok{args:List Value}{H:Hp}{v:Value}{H':Hp}(he:zmh args H=some (v,H')){args':List Value}{w:World}{β:Bt}(hl:LRel β args args')(hR:Rel PP w H β) :
  Calls PP A0 args'.toArray w fun x w'=>∃v' β',x=.returned v'∧Rel PP w' H' β'∧Ext w.heap.size w H β w' H' β'∧VRel β' v v':=by
 unfold zmh at he;split at he
 ·rename_i fn s i1 i2 t c;split at he
  ·rename_i hc;obtain⟨rfl,hs,hc⟩:=hc;split at he
   ·rename_i cs ty fz hg;split at he
    ·rename_i hok;cases he;obtain⟨a',b',c',d',e',rfl,ha,hb,hc',hd,he'⟩:=hl.five;cases ha;cases hb;cases hc';cases hd;cases he' with
     |iface _ _ v' hv=>
     cases hv;have fin:∀e w',(∃N,e=Ending.returned (.iface BR (.pointer (some ⟨N,0,none⟩)))∧w.heap.size≤N∧N<w'.heap.size∧RowKit.Below w.heap.size w w') →
       ∃v' β',e=.returned v'∧Rel PP w' H.skip β'∧Ext w.heap.size w H β w' H.skip β'∧VRel β' (.iface BR (.pointer (some ⟨H.next,0,none⟩))) v':=by
      rintro e w' ⟨N,rfl,h1,h2,h3⟩
      obtain⟨r1,r2⟩:=zlu hR h3.os h3.tape h3.output h3.size h3.block;obtain⟨q1,q2⟩:=r1.skip h2 0;refine⟨_,_,rfl,q1,⟨h3.os,h3.tape,h3.output,h3.size,q2,Nat.le_succ _,fun b hb _=>h3.block b hb,fun b q=>?_,fun i x hx hn=>?_⟩,.iface _ _ _ (.ptr _ 0 ⟨N,0,0⟩ (Bt.set_same _ _ _))⟩
      ·obtain⟨i,o,x,hi,ho,hx,rfl⟩:=q;have hi:H.get i=some o:=hi;obtain⟨z,hz⟩:=hR.has i o hi;rw[q2 i z hz]at hx;cases hx;exact .inr ⟨i,o,_,hi,ho,hz,rfl⟩
      ·unfold Bt.set at hx;split at hx
       ·cases hx;exact .inl h1
       ·rw[hn]at hx;cases hx
     rcases hc with rfl|rfl
     ·obtain⟨te,pe,hv⟩:=errIs hR (by rw[zjc];decide) hg hok;refine(Go.Proofs.Tryz.strconv_toError_range fn s i1 i2 _ w hs hv (.inr ⟨te,pe,rfl⟩)).mono fun e w' ⟨N,g1,g2,g3,g4⟩=>fin e w' ⟨N,g1,g2,?_,g4⟩;exact(Array.getElem?_eq_some_iff.1 g3).1
     ·obtain⟨te,pe,hv⟩:=errIs hR (by rw[zjc];decide) hg hok;refine(Go.Proofs.Tryz.strconv_toError_syntax fn s i1 i2 _ w hs hv (.inr ⟨te,pe,rfl⟩)).mono fun e w' ⟨N,g1,g2,g3,g4⟩=>fin e w' ⟨N,g1,g2,?_,g4⟩;exact(Array.getElem?_eq_some_iff.1 g3).1
    ·cases he
   ·cases he
  ·cases he
 ·cases he
theorem extE0:ExtC PP E0:=by
 intro f e hf args H v H' he args' w β hl hR;unfold E0 at hf;split at hf
 ·rename_i hf1;subst hf1;cases hf;unfold extFmt at he;split at he
  ·rename_i n;split at he
   ·rename_i hn;split at he
    ·rename_i cs ty fz hg;split at he
     ·rename_i hok;cases he;obtain⟨a',b',rfl,ha,hb⟩:=hl.two;cases ha;cases hb;have hT:=tabIs hR named_pow (by rw[zjc];decide) hg hok;refine(Go.Proofs.Tryz.internal_strconv_FormatInt_10 n hn.1 hn.2 w hT).mono fun x w' ⟨h1,k,os,h2⟩=>?_;subst h2
      obtain⟨r1,r2⟩:=zlu hR (w':=Go.Sort.grow (w.drewN k) os) rfl rfl rfl (by show w.heap.size≤(w.heap++os).size;rw[Array.size_append];omega) (fun b hb=>by
       show (w.heap++os)[b]?=_
       rw[Array.getElem?_append_left hb])
      exact⟨_,β,h1,r1,r2,.string _⟩
     ·cases he
    ·cases he
   ·cases he
  ·cases he
 ·split at hf
  ·rename_i hf2;subst hf2;cases hf;unfold ziK at he;split at he
   ·rename_i s;split at he
    ·rename_i hs;split at he
     ·rename_i cs ty fz hg;split at he
      ·rename_i hok;cases he;obtain⟨a',rfl,ha⟩:=hl.single;cases ha;have hT:=tabIs hR named_spc (by rw[zjc];decide) hg hok;refine(Go.Proofs.Tryz.strings_Fields_laid s w hs.1 (fun j b hb=>of_decide_eq_true (all_eq_true.1 hs.2 b (mem_of_getElem? hb))) hT).mono fun x w' ⟨h1,h2⟩=>?_;subst h2;subst h1;have hlr:LRel β ((Go.Lib.fields s.data.toList).map fun l=>Value.string ⟨l.toArray⟩) ((((Go.Lib.fields s.data.toList).map fun l=>Value.string ⟨l.toArray⟩).toArray).toList.take ((Go.Lib.fields s.data.toList).length)):=by
        have e:(((Go.Lib.fields s.data.toList).map fun l=>Value.string ⟨l.toArray⟩).toArray).toList.take ((Go.Lib.fields s.data.toList).length)=(Go.Lib.fields s.data.toList).map fun l=>Value.string ⟨l.toArray⟩:=by rw[take_of_length_le (by simp)]
        rw[e];refine⟨rfl,fun k v v' h1 h2=>?_⟩;rw[h1]at h2;cases h2;rw[List.getElem?_map]at h1;cases q:(Go.Lib.fields s.data.toList)[k]? with
        |none=>rw[q]at h1;cases h1
        |some l=>rw[q]at h1;cases h1;exact .string _
       obtain⟨g1,g2⟩:=hR.new_cells _ (((Go.Lib.fields s.data.toList).map fun l=>Value.string ⟨l.toArray⟩).toArray) 9 (0,0) _ hlr (by intro j hj;simp);refine⟨_,_,rfl,g1,g2,?_⟩;have:=VRel.slice (β:=β.set H.next ⟨w.heap.size,0,(((Go.Lib.fields s.data.toList).map fun l=>Value.string ⟨l.toArray⟩).toArray).size⟩) H.next 0 1 (Go.Lib.fields s.data.toList).length (Go.Lib.fields s.data.toList).length _ 0 (Go.Lib.fields s.data.toList).length (Bt.set_same _ _ _) (Nat.le_refl _) (Nat.le_refl _) (by simp) (by intro;rfl);exact this
      ·cases he
     ·cases he
    ·cases he
   ·cases he
  ·split at hf
   ·rename_i hf3;subst hf3;cases hf;exact extCC_ok he hl hR
   ·split at hf
    ·rename_i hf4;subst hf4;cases hf;exact extStr_ok he hl hR
    ·split at hf
     ·rename_i hf5;subst hf5;cases hf;exact extErr_ok he hl hR
     ·cases hf
end Go.AM
namespace Go.AM
open Go
def zai(op:Int):Int:=if op=1∨op=2∨op=3∨op=4 then 0 else if op=5∨op=15∨op=16∨op=31∨op=32∨op=33 then 1 else if op=14 then 3 else 2
theorem c29(op:Int)(H:Hp):RR Av [.int .i64 op] H=some (.int .i64 (zai op),H):=by
 refine(zlx E0 rfl _ _).trans ?_;unfold zg4;simp only[zad,s_br,zaZ,zan,zd7,za3,za6,zeK,zaC,decide_eq_true_eq,qg0];unfold zai;by_cases h1:op=1
 ·simp[h1]
 by_cases h2:op=2
 ·simp[h2]
 by_cases h3:op=3
 ·simp[h3]
 by_cases h4:op=4
 ·simp[h4]
 simp only[h1,h2,h3,h4,if_false,zan,za3,zad,qg0,decide_false,Bool.false_eq_true,or_self,false_or];by_cases h5:op=5
 ·simp[h5]
 by_cases h6:op=15
 ·simp[h6]
 by_cases h7:op=16
 ·simp[h7]
 by_cases h8:op=31
 ·simp[h8]
 by_cases h9:op=32
 ·simp[h9]
 by_cases h10:op=33
 ·simp[h10]
 by_cases h11:op=14
 ·simp[h11]
 simp[h5,h6,h7,h8,h9,h10,h11]
end Go.AM
namespace Go.AM
open List Go
structure Nd where
 op:Int
 w:Int
 a:Int
 b:Int
 c:Int
 num:Int
 name:ByteArray
def Nd.cells(n:Nd):List Value:=[.int .i64 n.op,.int .i64 n.w,.int .i64 n.a,.int .i64 n.b,.int .i64 n.c,.int .u64 n.num,.string n.name]
def Nd.val(n:Nd):Value:=.agg n.cells.toArray
def SlR(H:Hp)(sl:Value)(L:List Nd):Prop:=
 (L=[]∧sl=.slice none 0 0)∨∃i,sl=.slice (some ⟨i,0,some 7⟩) L.length L.length∧H.get i=some (.cells (L.flatMap Nd.cells) true)
structure StR(H:Hp)(p:Nat)(lim:Int)(L:List Nd)(sl:Value)(f g:Nat):Prop where
 obj:H.get p=some (.cells [.int .i64 lim,sl,.map (some f),.map (some g)] true)
 all:SlR H sl L
section
variable {H:Hp}{p f g:Nat}{lim:Int}{L:List Nd}{sl:Value}(hs:StR H p lim L sl f g){α:Type}(k:Value→Option α)
include hs
theorem StR.l0:zak 1 false H (.pointer (some ⟨p,0,none⟩)) k=k (.int .i64 lim):=zbi hs.obj 0 _ rfl k
theorem StR.l1:zak 1 false H (.pointer (some ⟨p,1,none⟩)) k=k sl:=zbi hs.obj 1 _ rfl k
theorem StR.l2:zak 1 false H (.pointer (some ⟨p,2,none⟩)) k=k (.map (some f)):=zbi hs.obj 2 _ rfl k
theorem StR.l3:zak 1 false H (.pointer (some ⟨p,3,none⟩)) k=k (.map (some g)):=zbi hs.obj 3 _ rfl k
end
theorem SlR.len{H:Hp}{sl:Value}{L:List Nd}(h:SlR H sl L){α:Type}(k:Value→Option α):pLen .sl sl H k=k (.int .i64 L.length):=by rcases h with⟨rfl,rfl⟩|⟨i,rfl,_⟩<;>rfl
theorem zpp(L:List Nd)(i j:Nat)(hj:j<7):(L.flatMap Nd.cells)[i*7+j]?=L[i]?.bind fun n=>n.cells[j]?:=by
 induction L generalizing i with
 |nil=>simp
 |cons n L ih=>
  rw[flatMap_cons];cases i with
  |zero=>rw[Nat.zero_mul,Nat.zero_add,List.getElem?_append_left (by simp[Nd.cells];omega)];rfl
  |succ i=>
   have h7:n.cells.length=7:=rfl;rw[List.getElem?_append_right (by omega),h7,show (i+1)*7+j-7=i*7+j by omega];exact ih i
theorem flat_len(L:List Nd):(L.flatMap Nd.cells).length=L.length*7:=by
 induction L with
 |nil=>rfl
 |cons n L ih=>
  have h7:n.cells.length=7:=rfl;rw[flatMap_cons,length_append,ih,length_cons,h7];omega
def isT(L:List Nd)(t:Int):Bool:=decide (t≥1)&&decide (t≤L.length)
theorem c19{H:Hp}{p f g:Nat}{lim t:Int}{L:List Nd}{sl:Value}(hs:StR H p lim L sl f g):RR AH [.pointer (some ⟨p,0,none⟩),.int .i64 t] H=some (.bool (isT L t),H):=by refine(zh1 E0 rfl _ _ _).trans ?_;unfold zeQ;simp only[zad,s_br,zdX,zbA,zaK,zft,Nat.zero_add,hs.l1,hs.all.len,decide_eq_true_eq];unfold isT;by_cases h:t≥1<;>simp[h]
theorem zco{k:IntKind}{n:Int}(h1:k.min≤n)(h2:n≤k.max):k.wrap n=n:=by cases k<;>simp[IntKind.wrap,IntKind.min,IntKind.max,IntKind.signed,IntKind.bits] at * <;> omega
def wT(L:List Nd)(d t:Int):Int:=if isT L t then (L[(t-1).toNat]?.map Nd.w).getD d else d
theorem zaV{L:List Nd}{t:Int}:isT L t=true↔1≤t∧t≤L.length:=by unfold isT;simp
theorem s_idx{H:Hp}{L:List Nd}{sl:Value}(h:SlR H sl L){t:Int}(ht:isT L t=true)(hL:(L.length:Int)≤4611686018427387904){α:Type}(k:Value→Option α) :
  ∃i n,L[(t-1).toNat]?=some n∧H.get i=some (.cells (L.flatMap Nd.cells) true)∧pIdx 7 sl (.int .i64 (IntKind.i64.wrap (t-1))) k=k (.pointer (some ⟨i,(t-1).toNat*7,none⟩)):=by
 obtain⟨h1,h2⟩:=zaV.1 ht;have hw:IntKind.i64.wrap (t-1)=t-1:=zco (by simp[IntKind.min,IntKind.signed,IntKind.bits];omega) (by simp[IntKind.max,IntKind.signed,IntKind.bits];omega);rcases h with⟨rfl,rfl⟩|⟨i,rfl,hi⟩
 ·simp at h2;omega
 ·have hlt:(t-1).toNat<L.length:=by omega
  refine⟨i,L[(t-1).toNat],by simp[hlt],hi,?_⟩;rw[hw];unfold pIdx idxV;have:(7:Nat)=7∧0≤t-1∧t-1<(L.length:Int):=⟨rfl,by omega,by omega⟩
  simp only[this,and_self,if_true,Nat.zero_add]
theorem c40{H:Hp}{p f g:Nat}{lim t:Int}{L:List Nd}{sl:Value}(hs:StR H p lim L sl f g)(hL:(L.length:Int)≤4611686018427387904):RR Al [.pointer (some ⟨p,0,none⟩),.int .i64 t] H=some (.int .i64 (wT L (-1) t),H):=by
 refine(zja E0 rfl _ _ _).trans ?_;unfold zfk;simp only[zag (c19 hs),zad,s_br,zbQ,zbA,zaK,zd5,Nat.zero_add,hs.l1];unfold wT;cases ht:isT L t with
 |false=>simp
 |true=>
  obtain⟨i,n,hn,hi,hx⟩:=s_idx hs.all ht hL (fun p8=>zav 1 p8 fun p9=>zak 1 false H p9 fun v10=>some (v10,H));simp only[Bool.not_true,Bool.false_eq_true,if_false,if_true];rw[hx,zaK,zbi hi _ (.int .i64 n.w) (by rw[zpp _ _ _ (by omega),hn];rfl),hn];rfl
end Go.AM
namespace Go.AM
open Go
section
variable {α:Type}{P:Program}(n:Nd)(k:Value→Option α)
theorem n0:zaj 1 false (zab n.val) 0 k=k (.int .i64 n.op):=zd6 _ 0 _ rfl k
theorem n1:zaj 1 false (zab n.val) 1 k=k (.int .i64 n.w):=zd6 _ 1 _ rfl k
theorem n2:zaj 1 false (zab n.val) 2 k=k (.int .i64 n.a):=zd6 _ 2 _ rfl k
theorem n3:zaj 1 false (zab n.val) 3 k=k (.int .i64 n.b):=zd6 _ 3 _ rfl k
theorem n4:zaj 1 false (zab n.val) 4 k=k (.int .i64 n.c):=zd6 _ 4 _ rfl k
theorem n5:zaj 1 false (zab n.val) 5 k=k (.int .u64 n.num):=zd6 _ 5 _ rfl k
theorem n6:zaj 1 false (zab n.val) 6 k=k (.string n.name):=zd6 _ 6 _ rfl k
theorem n07:zaj 7 true (zab n.val) 0 k=k n.val:=rfl
theorem s_sneq(T:TypeId)(a b:ByteArray)(k:Value→Option α):pBin P .neq T (.string a) (.string b) k=k (.bool !(a.toList==b.toList)):=rfl
end
theorem s_ite(p:Prop) [Decidable p](x y:Bool)(H:Hp):(if p then some (Value.bool x,H) else some (Value.bool y,H))=some (Value.bool (bif decide p then x else y),H):=by by_cases h:p<;>simp[h]
def zl2(n:Nd):Bool:=!(n.name.toList==(⟨#[]⟩:ByteArray).toList)
def zd3(k:Int)(n:Nd):Bool:=
 (decide (k<1)&&decide (n.a≠0))||(decide (k<2)&&decide (n.b≠0))||(decide (k<3)&&decide (n.c≠0)) ||
 (decide (n.num≠0)&&decide (n.op≠3)&&decide (n.op≠31))||(zl2 n&&decide (n.op≠4))
theorem c41(n:Nd)(H:Hp):RR BO [n.val] H=some (.bool (zd3 (zai n.op) n),H):=by refine(zlw E0 rfl _ _).trans ?_;unfold zg3;simp only[n0,n2,n3,n4,n5,n6,zag (c29 _ _),zbh,zba,s_sneq,zad,s_br,s_ite];unfold zd3 zl2;generalize zai n.op=k;congr 2;congr 1;generalize decide (k<1)=b1;generalize decide (n.a≠0)=b2;generalize decide (k<2)=b3;generalize decide (n.b≠0)=b4;generalize decide (k<3)=b5;generalize decide (n.c≠0)=b6;generalize decide (n.num≠0)=b7;generalize decide (n.op≠3)=b8;generalize decide (n.op≠31)=b9;generalize (!(n.name.toList==(⟨#[]⟩:ByteArray).toList))=b10;generalize decide (n.op≠4)=b11;simp only[Bool.decide_eq_true];cases b1<;>cases b2<;>cases b3<;>cases b4<;>cases b5<;>cases b6<;>simp<;>cases b7<;>cases b8<;>cases b9<;>simp<;>cases b10<;>simp
theorem zfh(v:Value)(l:List Value):(v::l).headD undef=v:=rfl
def zbz(op a b c:Int):Bool:=
 if zai op=0 then true
 else if op=5 then decide (a=0)
 else if op=6∨op=7∨op=8 then decide (a=0)&&decide (b=0)
 else if op=9 then decide (a=b)
 else if op=14 then decide (a=0)&&decide (b=c)
 else if op=30 then decide (a>0)&&decide (b>0)
 else if zai op=1 then decide (a>0)
 else decide (a>0)&&decide (a=b)
section
variable {H:Hp}{p f g:Nat}{lim:Int}{L:List Nd}{sl:Value}
theorem c42(hs:StR H p lim L sl f g)(hL:(L.length:Int)≤4611686018427387904)(n:Nd) :
  RR BL [.pointer (some ⟨p,0,none⟩),n.val] H=some (.bool (zbz n.op (wT L (-1) n.a) (wT L (-1) n.b) (wT L (-1) n.c)),H):=by
 refine(zfv E0 rfl _ _ _).trans ?_;unfold zdw;simp only[n0,n2,n3,n4,zag (c40 hs hL),zag (c29 _ _),zaZ,zb8,zad,s_br,zan,zd7,za3,za6,zeK,zaC,zfh,qg0,decide_eq_true_eq,if_true];unfold zbz;generalize wT L (-1) n.a=a;generalize wT L (-1) n.b=b;generalize wT L (-1) n.c=c;generalize n.op=op;by_cases h0:zai op=0
 ·simp only[h0,if_true]
 simp only[h0,if_false];by_cases h5:op=5
 ·simp only[h5,if_true]
 simp only[h5,if_false];by_cases h6:op=6
 ·simp[h6,s_ite]
 by_cases h7:op=7
 ·simp[h7,s_ite]
 by_cases h8:op=8
 ·simp[h8,s_ite]
 simp only[h6,h7,h8,if_false,or_self];by_cases h9:op=9
 ·simp[h9]
 simp only[h9,if_false];by_cases h14:op=14
 ·simp[h14];by_cases q:a=0<;>simp[q]
 simp only[h14,if_false];by_cases h30:op=30
 ·simp[h30];by_cases q:a>0<;>simp[q]
 simp only[h30,if_false];by_cases h1:zai op=1
 ·simp[h1]
 simp only[h1,if_false];by_cases q:a>0<;>simp[q]
end
theorem zoU{α:Type}{P:Program}(T:TypeId)(kd:IntKind)(a b:Int)(hb:b≠0)(k:Value→Option α):pBin P .rem T (.int kd a) (.int kd b) k=k (.int kd (a.tmod b)):=by simp[pBin,binV,zeq,hb]
theorem zhX{α:Type}(kd k2:IntKind)(a:Int)(k:Value→Option α):zaq kd (.int k2 a) k=k (.int kd (kd.wrap a)):=rfl
theorem s_and{α:Type}{P:Program}(T:TypeId)(kd:IntKind)(a b:Int)(k:Value→Option α):pBin P .and T (.int kd a) (.int kd b) k=k (.int kd (kd.wrap (BitVec.ofInt kd.bits a&&&BitVec.ofInt kd.bits b).toNat)):=by simp[pBin,binV,zeq,bvOp]
theorem s_shl{α:Type}{P:Program}(T:TypeId)(kd k2:IntKind)(a b:Int)(hb:0≤b)(k:Value→Option α):pBin P .shl T (.int kd a) (.int k2 b) k=k (.int kd (kd.wrap (a*2^(min b.toNat kd.bits)))):=by
 have:¬b<0:=by omega
 simp[pBin,binV,shOp,this]
def zdh(w x:Int):Int:=if w<1 then 0 else if w≥64 then x else x%2^w.toNat
theorem zkD{w:Int}(h1:1≤w)(h2:w<64):(2:Int)^w.toNat<18446744073709551616∧(2:Int)≤2^w.toNat:=by
 have hw:w.toNat<64:=by omega
 have hw1:1≤w.toNat:=by omega
 have h3:(2:Nat)^w.toNat<2^64:=Nat.pow_lt_pow_right (by omega) hw;have h4:(2:Nat)^1≤2^w.toNat:=Nat.pow_le_pow_right (by omega) hw1;constructor
 ·have:((2^w.toNat:Nat):Int)<((2^64:Nat):Int):=Int.ofNat_lt.2 h3;simpa using this
 ·have:((2^1:Nat):Int)≤((2^w.toNat:Nat):Int):=Int.ofNat_le.2 h4;simpa using this
theorem znB{w:Int}(h1:1≤w)(h2:w<64):IntKind.u64.wrap (1*2^(min (IntKind.u64.wrap w).toNat IntKind.u64.bits))=2^w.toNat:=by have hw:IntKind.u64.wrap w=w:=zco (by simp[IntKind.min,IntKind.signed,IntKind.bits];omega) (by simp[IntKind.max,IntKind.signed,IntKind.bits];omega);rw[hw];have hb:IntKind.u64.bits=64:=rfl;rw[hb,Nat.min_eq_left (by omega),Int.one_mul];obtain⟨p1,p2⟩:=zkD h1 h2;exact zco (by simp[IntKind.min,IntKind.signed,IntKind.bits];omega) (by simp[IntKind.max,IntKind.signed,IntKind.bits];omega)
theorem c45(w x:Int)(hx:0≤x)(hx2:x<18446744073709551616)(H:Hp):RR Ae [.int .i64 w,.int .u64 x] H=some (.int .u64 (zdh w x),H):=by
 refine(zmS E0 rfl _ _ _).trans ?_;unfold ziA zdh;simp only[zbh,zdX,zad,s_br,decide_eq_true_eq,zhX];by_cases h1:w<1
 ·simp[h1]
 by_cases h2:w≥64
 ·simp[h1,h2]
 simp only[h1,h2,if_false];have hw:IntKind.u64.wrap w=w:=zco (by simp[IntKind.min,IntKind.signed,IntKind.bits];omega) (by simp[IntKind.max,IntKind.signed,IntKind.bits];omega);obtain⟨p1,p2⟩:=zkD (w:=w) (by omega) (by omega);rw[s_shl _ _ _ _ _ (by rw[hw];omega),znB (by omega) (by omega),zd5,s_and];have hm:IntKind.u64.wrap (2^w.toNat-1)=2^w.toNat-1:=zco (by simp[IntKind.min,IntKind.signed,IntKind.bits];omega) (by simp[IntKind.max,IntKind.signed,IntKind.bits];omega);rw[hm];congr 3;have hb:IntKind.u64.bits=64:=rfl;rw[hb];obtain⟨X,rfl⟩:=Int.eq_ofNat_of_zero_le hx;have e2:(2:Int)^w.toNat-1=((2^w.toNat-1:Nat):Int):=by have:1≤(2:Nat)^w.toNat:=Nat.one_le_two_pow;rw[Int.ofNat_sub this];simp
 rw[e2];have e3:BitVec.ofInt 64 ((X:Nat):Int)=BitVec.ofNat 64 X:=by simp
 have e4:BitVec.ofInt 64 (((2^w.toNat-1:Nat)):Int)=BitVec.ofNat 64 (2^w.toNat-1):=by simp
 rw[e3,e4,BitVec.toNat_and,BitVec.toNat_ofNat,BitVec.toNat_ofNat];have hX:X<2^64:=by have:(X:Int)<18446744073709551616:=hx2;omega
 have h3:(2:Nat)^w.toNat<2^64:=Nat.pow_lt_pow_right (by omega) (by omega);rw[Nat.mod_eq_of_lt hX,Nat.mod_eq_of_lt (by omega),Nat.and_two_pow_sub_one_eq_mod];have h4:X%2^w.toNat≤X:=Nat.mod_le _ _;have h5:((X:Nat):Int)%2^w.toNat=((X%2^w.toNat:Nat):Int):=by simp
 rw[h5];generalize X%2^w.toNat=Y at h4;have m1:IntKind.u64.min=0:=rfl;have m2:IntKind.u64.max=18446744073709551615:=rfl;rw[zco (by rw[m1];omega) (by rw[m2];omega)]
def isPow(w:Int):Bool:=decide (w=1∨w=2∨w=4∨w=8∨w=16∨w=32∨w=64)
def pops:List Int:=[0,1,1,2,1,2,2,3,1,2,2,3,2,3,3,4,1,2,2,3,2,3,3,4,2,3,3,4,3,4,4,5,1,2,2,3,2,3,3,4,2,3,3,4,3,4,4,5,2,3,3,4,3,4,4,5,3,4,4,5,4,5,5,6,1]
theorem all58(H:Hp):(i:Nat)→i<65→zdR RR (.int .u64 (i:Int)) H=some (.int .i64 (pops.getD i 0),H)
 |0,_=>by kernel_rfl
 |1,_=>by kernel_rfl
 |2,_=>by kernel_rfl
 |3,_=>by kernel_rfl
 |4,_=>by kernel_rfl
 |5,_=>by kernel_rfl
 |6,_=>by kernel_rfl
 |7,_=>by kernel_rfl
 |8,_=>by kernel_rfl
 |9,_=>by kernel_rfl
 |10,_=>by kernel_rfl
 |11,_=>by kernel_rfl
 |12,_=>by kernel_rfl
 |13,_=>by kernel_rfl
 |14,_=>by kernel_rfl
 |15,_=>by kernel_rfl
 |16,_=>by kernel_rfl
 |17,_=>by kernel_rfl
 |18,_=>by kernel_rfl
 |19,_=>by kernel_rfl
 |20,_=>by kernel_rfl
 |21,_=>by kernel_rfl
 |22,_=>by kernel_rfl
 |23,_=>by kernel_rfl
 |24,_=>by kernel_rfl
 |25,_=>by kernel_rfl
 |26,_=>by kernel_rfl
 |27,_=>by kernel_rfl
 |28,_=>by kernel_rfl
 |29,_=>by kernel_rfl
 |30,_=>by kernel_rfl
 |31,_=>by kernel_rfl
 |32,_=>by kernel_rfl
 |33,_=>by kernel_rfl
 |34,_=>by kernel_rfl
 |35,_=>by kernel_rfl
 |36,_=>by kernel_rfl
 |37,_=>by kernel_rfl
 |38,_=>by kernel_rfl
 |39,_=>by kernel_rfl
 |40,_=>by kernel_rfl
 |41,_=>by kernel_rfl
 |42,_=>by kernel_rfl
 |43,_=>by kernel_rfl
 |44,_=>by kernel_rfl
 |45,_=>by kernel_rfl
 |46,_=>by kernel_rfl
 |47,_=>by kernel_rfl
 |48,_=>by kernel_rfl
 |49,_=>by kernel_rfl
 |50,_=>by kernel_rfl
 |51,_=>by kernel_rfl
 |52,_=>by kernel_rfl
 |53,_=>by kernel_rfl
 |54,_=>by kernel_rfl
 |55,_=>by kernel_rfl
 |56,_=>by kernel_rfl
 |57,_=>by kernel_rfl
 |58,_=>by kernel_rfl
 |59,_=>by kernel_rfl
 |60,_=>by kernel_rfl
 |61,_=>by kernel_rfl
 |62,_=>by kernel_rfl
 |63,_=>by kernel_rfl
 |64,_=>by kernel_rfl
 |n+65,h=>by omega
theorem c53(w:Int)(h0:0≤w)(h1:w<65)(H:Hp):RR AT [.int .u64 w] H=some (.int .i64 (pops.getD w.toNat 0),H):=by
 refine(zhm E0 rfl _ _).trans ?_;unfold zeE;have:RR By [.int .u64 w] H=some (.int .i64 (pops.getD w.toNat 0),H):=by refine(zf1 E0 rfl _ _).trans ?_;obtain⟨n,rfl⟩:=Int.eq_ofNat_of_zero_le h0;exact all58 H n (by omega)
 rw[zag this]
theorem zn1:(i:Nat)→i<65→decide (pops.getD i 0=1)=isPow (i:Int)
 |0,_=>by kernel_rfl
 |1,_=>by kernel_rfl
 |2,_=>by kernel_rfl
 |3,_=>by kernel_rfl
 |4,_=>by kernel_rfl
 |5,_=>by kernel_rfl
 |6,_=>by kernel_rfl
 |7,_=>by kernel_rfl
 |8,_=>by kernel_rfl
 |9,_=>by kernel_rfl
 |10,_=>by kernel_rfl
 |11,_=>by kernel_rfl
 |12,_=>by kernel_rfl
 |13,_=>by kernel_rfl
 |14,_=>by kernel_rfl
 |15,_=>by kernel_rfl
 |16,_=>by kernel_rfl
 |17,_=>by kernel_rfl
 |18,_=>by kernel_rfl
 |19,_=>by kernel_rfl
 |20,_=>by kernel_rfl
 |21,_=>by kernel_rfl
 |22,_=>by kernel_rfl
 |23,_=>by kernel_rfl
 |24,_=>by kernel_rfl
 |25,_=>by kernel_rfl
 |26,_=>by kernel_rfl
 |27,_=>by kernel_rfl
 |28,_=>by kernel_rfl
 |29,_=>by kernel_rfl
 |30,_=>by kernel_rfl
 |31,_=>by kernel_rfl
 |32,_=>by kernel_rfl
 |33,_=>by kernel_rfl
 |34,_=>by kernel_rfl
 |35,_=>by kernel_rfl
 |36,_=>by kernel_rfl
 |37,_=>by kernel_rfl
 |38,_=>by kernel_rfl
 |39,_=>by kernel_rfl
 |40,_=>by kernel_rfl
 |41,_=>by kernel_rfl
 |42,_=>by kernel_rfl
 |43,_=>by kernel_rfl
 |44,_=>by kernel_rfl
 |45,_=>by kernel_rfl
 |46,_=>by kernel_rfl
 |47,_=>by kernel_rfl
 |48,_=>by kernel_rfl
 |49,_=>by kernel_rfl
 |50,_=>by kernel_rfl
 |51,_=>by kernel_rfl
 |52,_=>by kernel_rfl
 |53,_=>by kernel_rfl
 |54,_=>by kernel_rfl
 |55,_=>by kernel_rfl
 |56,_=>by kernel_rfl
 |57,_=>by kernel_rfl
 |58,_=>by kernel_rfl
 |59,_=>by kernel_rfl
 |60,_=>by kernel_rfl
 |61,_=>by kernel_rfl
 |62,_=>by kernel_rfl
 |63,_=>by kernel_rfl
 |64,_=>by kernel_rfl
 |n+65,h=>by omega
def zbO(n:Nd)(a b:Int):Bool:=
 if n.op=1∨n.op=2∨(5≤n.op∧n.op≤13) then decide (n.w=0)
 else if n.op=3 then decide (n.w>0)&&decide (zdh n.w n.num=n.num)
 else if n.op=4 then true
 else if n.op=14 then decide (n.w=b)
 else if 25≤n.op∧n.op≤29 then decide (n.w=a)&&isPow a
 else if n.op=30 then decide (n.w=a+b)
 else if n.op=31 then decide (n.w≥1)&&decide (n.w≤a)&&decide (n.num≤a-n.w)
 else if n.op=32∨n.op=33 then decide (n.w≥a)
 else decide (n.w=a)
structure Nd.Ok(n:Nd):Prop where
 w0:0≤n.w
 w1:n.w≤64
 o1:1≤n.op
 o2:n.op≤33
 n0:0≤n.num
 n1:n.num<18446744073709551616
theorem zaz{x:Int}(h1:-9223372036854775808≤x)(h2:x≤9223372036854775807):IntKind.i64.wrap x=x:=zco (by have:IntKind.i64.min=-9223372036854775808:=rfl;omega) (by have:IntKind.i64.max=9223372036854775807:=rfl;omega)
theorem zhs{x:Int}(h1:0≤x)(h2:x≤18446744073709551615):IntKind.u64.wrap x=x:=zco (by have:IntKind.u64.min=0:=rfl;omega) (by have:IntKind.u64.max=18446744073709551615:=rfl;omega)
section
variable {H:Hp}{p f g:Nat}{lim:Int}{L:List Nd}{sl:Value}
theorem c43(hs:StR H p lim L sl f g)(hL:(L.length:Int)≤4611686018427387904)(n:Nd)(hn:n.Ok)
  (ha:-1≤wT L (-1) n.a∧wT L (-1) n.a≤64) (hb:-1≤wT L (-1) n.b∧wT L (-1) n.b≤64) (hsort:n.op≥15→wT L (-1) n.a>0) :
  RR BM [.pointer (some ⟨p,0,none⟩),n.val] H=some (.bool (zbO n (wT L (-1) n.a) (wT L (-1) n.b)),H):=by
 refine(zgF E0 rfl _ _ _).trans ?_;unfold zee;have ht:=c45 n.w n.num hn.n0 hn.n1 H;simp only[n0,n1,n2,n3,n5,zag (c40 hs hL),zaZ,zb8,zdX,zft,zad,s_br,zan,zd7,za3,za6,zeK,zaC,zfh,qg0,decide_eq_true_eq,if_true,zhX,zd5,zaU,zag ht];unfold zbO;generalize wT L (-1) n.a=a at *;generalize wT L (-1) n.b=b at *;have o1:=hn.o1;have o2:=hn.o2;by_cases h1:n.op=1
 ·simp[h1]
 by_cases h2:n.op=2
 ·simp[h2]
 by_cases h5:5≤n.op∧n.op≤13
 ·have q:n.op≥5:=h5.1;simp only[h1,h2,h5,q,if_true,if_false,and_self,or_true,decide_true]
 have hc:¬(n.op=1∨n.op=2∨5≤n.op∧n.op≤13):=by omega
 simp only[hc,h1,h2,if_false];by_cases h3:n.op=3
 ·have q:¬n.op≥5:=by omega
  have q2:¬(3:Int)≥5:=by decide
  simp only[h3,q2,if_true,if_false,Bool.false_eq_true];by_cases q:n.w>0<;>simp[q]
 by_cases h4:n.op=4
 ·have q2:¬(4:Int)≥5:=by decide
  have q3:¬(4:Int)=3:=by decide
  simp only[h4,q2,q3,if_true,if_false,Bool.false_eq_true];simp
 have g5:n.op≥5:=by omega
 have g13:¬n.op≤13:=by omega
 simp only[g5,g13,h3,h4,if_true,if_false,decide_false,Bool.false_eq_true];by_cases h14:n.op=14
 ·simp only[h14,if_true];simp
 simp only[h14,if_false];have hap:=hsort (by omega);by_cases h25:25≤n.op∧n.op≤29
 ·have q:n.op≥25:=h25.1;have e:RR AT [.int .u64 (IntKind.u64.wrap a)] H=some (.int .i64 (pops.getD a.toNat 0),H):=by rw[zhs (by omega) (by omega)];exact c53 a (by omega) (by omega) H
  have e2:=zn1 a.toNat (by omega);have e3:((a.toNat:Nat):Int)=a:=Int.toNat_of_nonneg (by omega);rw[e3]at e2;simp only[q,h25.2,if_true,decide_true,zag e,zaZ,e2,and_self];by_cases q:n.w=a<;>simp[q,h25.1]
 simp only[h25,if_false];have hA:(if n.op≥25 then some (Ctl.next,[Value.bool (decide (n.op≤29))],H) else some (Ctl.next,[Value.bool false],H))=some (Ctl.next,[Value.bool false],H):=by
  by_cases q:n.op≥25
  ·have:¬n.op≤29:=by omega
   simp[q,this]
  ·simp[q]
 have w1:IntKind.i64.wrap (a+b)=a+b:=zaz (by omega) (by omega);have w0:=hn.w0;have w64:=hn.w1;have w2:IntKind.i64.wrap (a-n.w)=a-n.w:=zaz (by omega) (by omega);by_cases q25:n.op≥25
 ·have q29:¬n.op≤29:=by omega
  simp only[q25,q29,if_true,if_false,decide_false,Bool.false_eq_true,w1,w2];by_cases h30:n.op=30
  ·simp only[h30,if_true]
   try simp
  simp only[h30,if_false];by_cases h31:n.op=31
  ·simp only[h31,if_true];by_cases k1:n.w≥1
   ·by_cases k2:n.w≤a
    ·have k3:IntKind.u64.wrap (a-n.w)=a-n.w:=zhs (by omega) (by omega);simp[k1,k2,k3]
    ·simp[k1,k2]
   ·simp[k1]
  simp only[h31,if_false];by_cases h32:n.op=32
  ·simp[h32]
  by_cases h33:n.op=33
  ·simp[h33]
  omega
 ·have h30:¬n.op=30:=by omega
  have h31:¬n.op=31:=by omega
  have h32:¬n.op=32:=by omega
  have h33:¬n.op=33:=by omega
  simp only[q25,h30,h31,h32,h33,if_false,or_self,Bool.false_eq_true];simp
end
section
end
def zfl(x:Int):Bool:=(decide (x≥97)&&decide (x≤122))||(decide (x≥65)&&decide (x≤90))||decide (x=95)
def zpl(x:Int):Bool:=!(decide (x<48))&&!(decide (x>57))
def zjC(b:UInt8):Bool:=zfl (b.toNat:Int)||zpl (b.toNat:Int)
def zcu(s:ByteArray):Bool:=decide (s.size≥1)&&decide (s.size≤24)&&(s.data.toList.head?.any fun b=>zfl (b.toNat:Int))&&(s.data.toList.drop 1).all zjC
theorem s_slen{α:Type}(s:ByteArray)(H:Hp)(k:Value→Option α):pLen .str (.string s) H k=k (.int .i64 s.size):=rfl
end Go.AM
namespace Go.AM
open List Go
theorem znj{x:Int}(h:128≤x):zfl x=false:=by
 unfold zfl;have h1:¬x≤122:=by omega
 have h2:¬x≤90:=by omega
 have h3:¬x=95:=by omega
 simp[h1,h2,h3]
theorem zpk{x:Int}(h:128≤x):zpl x=false:=by
 unfold zpl;have h1:x>57:=by omega
 simp[h1]
theorem c44(s:ByteArray)(H:Hp):RR AS [.string s] H=some (.bool (zcu s),H):=by
 refine(zmT E0 rfl _ _).trans ?_;unfold ziB
 generalize hS:(fun (l12:List Value) (H13:Hp)=>
 br (Nat.blt (za1 ((l12.drop 0).getD 0 undef)) (za4 ((l12.drop 0).getD 0 undef)).size)
 (zaw (
 pBin PP .geq Af (.int .i32 (Utf8.decode (za4 ((l12.drop 0).getD 0 undef)) (za1 ((l12.drop 0).getD 0 undef))).1) (.int .i32 97) fun v14=>
 zaa v14 fun b15=>br b15
 (pBin PP .leq Af (.int .i32 (Utf8.decode (za4 ((l12.drop 0).getD 0 undef)) (za1 ((l12.drop 0).getD 0 undef))).1) (.int .i32 122) fun v16=>
 zaa v16 fun b17=>br b17
 (some (Ctl.next,[(.bool true)],H13))
 (pBin PP .geq Af (.int .i32 (Utf8.decode (za4 ((l12.drop 0).getD 0 undef)) (za1 ((l12.drop 0).getD 0 undef))).1) (.int .i32 65) fun v18=>
 zaa v18 fun b19=>br b19
 (pBin PP .leq Af (.int .i32 (Utf8.decode (za4 ((l12.drop 0).getD 0 undef)) (za1 ((l12.drop 0).getD 0 undef))).1) (.int .i32 90) fun v20=>
 zaa v20 fun b21=>br b21
 (some (Ctl.next,[(.bool true)],H13))
 (pBin PP .eql Af (.int .i32 (Utf8.decode (za4 ((l12.drop 0).getD 0 undef)) (za1 ((l12.drop 0).getD 0 undef))).1) (.int .i32 95) fun v22=>
 some (Ctl.next,[v22],H13)))
 (pBin PP .eql Af (.int .i32 (Utf8.decode (za4 ((l12.drop 0).getD 0 undef)) (za1 ((l12.drop 0).getD 0 undef))).1) (.int .i32 95) fun v23=>
 some (Ctl.next,[v23],H13))))
 (pBin PP .geq Af (.int .i32 (Utf8.decode (za4 ((l12.drop 0).getD 0 undef)) (za1 ((l12.drop 0).getD 0 undef))).1) (.int .i32 65) fun v24=>
 zaa v24 fun b25=>br b25
 (pBin PP .leq Af (.int .i32 (Utf8.decode (za4 ((l12.drop 0).getD 0 undef)) (za1 ((l12.drop 0).getD 0 undef))).1) (.int .i32 90) fun v26=>
 zaa v26 fun b27=>br b27
 (some (Ctl.next,[(.bool true)],H13))
 (pBin PP .eql Af (.int .i32 (Utf8.decode (za4 ((l12.drop 0).getD 0 undef)) (za1 ((l12.drop 0).getD 0 undef))).1) (.int .i32 95) fun v28=>
 some (Ctl.next,[v28],H13)))
 (pBin PP .eql Af (.int .i32 (Utf8.decode (za4 ((l12.drop 0).getD 0 undef)) (za1 ((l12.drop 0).getD 0 undef))).1) (.int .i32 95) fun v29=>
 some (Ctl.next,[v29],H13)))) fun q30 l31 H32=>zaG q30
 (pUn .not (l31.getD 0 undef) fun v34=>
 zaa v34 fun b35=>br b35
 (pBin PP .eql Aa (.int .i64 ((za1 ((l12.drop 0).getD 0 undef)):Nat)) (.int .i64 0) fun v36=>
 zaa v36 fun b37=>br b37
 (some (Ctl.ret,[(.bool false)],H32))
 (pBin PP .lss Af (.int .i32 (Utf8.decode (za4 ((l12.drop 0).getD 0 undef)) (za1 ((l12.drop 0).getD 0 undef))).1) (.int .i32 48) fun v38=>
 zaa v38 fun b39=>br b39
 (some (Ctl.ret,[(.bool false)],H32))
 (pBin PP .gtr Af (.int .i32 (Utf8.decode (za4 ((l12.drop 0).getD 0 undef)) (za1 ((l12.drop 0).getD 0 undef))).1) (.int .i32 57) fun v40=>
 zaa v40 fun b41=>br b41
 (some (Ctl.ret,[(.bool false)],H32))
 (some (Ctl.next,[(.tuple #[.string (za4 ((l12.drop 0).getD 0 undef)),.int .i64 (((za1 ((l12.drop 0).getD 0 undef))+(Utf8.decode (za4 ((l12.drop 0).getD 0 undef)) (za1 ((l12.drop 0).getD 0 undef))).2):Nat)])],H32)))))
 (some (Ctl.next,[(.tuple #[.string (za4 ((l12.drop 0).getD 0 undef)),.int .i64 (((za1 ((l12.drop 0).getD 0 undef))+(Utf8.decode (za4 ((l12.drop 0).getD 0 undef)) (za1 ((l12.drop 0).getD 0 undef))).2):Nat)])],H32)))
 (fun i33=>zax i33 1 (
 some (Ctl.next,[(.tuple #[.string (za4 ((l12.drop 0).getD 0 undef)),.int .i64 (((za1 ((l12.drop 0).getD 0 undef))+(Utf8.decode (za4 ((l12.drop 0).getD 0 undef)) (za1 ((l12.drop 0).getD 0 undef))).2):Nat)])],H32)) (
 some (Ctl.exit i33,[(.tuple #[.string (za4 ((l12.drop 0).getD 0 undef)),.int .i64 (((za1 ((l12.drop 0).getD 0 undef))+(Utf8.decode (za4 ((l12.drop 0).getD 0 undef)) (za1 ((l12.drop 0).getD 0 undef))).2):Nat)])],H32)))
 (some (Ctl.ret,[(l31.headD undef)],H32)))
 (some (Ctl.exit 0,[(.tuple #[.string (za4 ((l12.drop 0).getD 0 undef)),.int .i64 ((za1 ((l12.drop 0).getD 0 undef)):Nat)])],H13)))=S
 have hlen:s.data.toList.length=s.size:=by simp
 have hstep:∀(i:Nat) (b:UInt8),s.data.toList[i]?=some b→S [.tuple #[.string s,.int .i64 (i:Nat)]] H =
   if (zfl (b.toNat:Int)||(decide (i≠0)&&zpl (b.toNat:Int)))=true then some (.next,[.tuple #[.string s,.int .i64 ((i+1:Nat))]],H) else some (.ret,[.bool false],H):=by
  intro i b hb;have hl:i<s.data.toList.length:=(List.getElem?_eq_some_iff.1 hb).1;have hi:i<s.size:=by omega
  have hsb:s[i]'hi=b:=by have:s[i]=s.data[i]'(by simpa using hl):=rfl;rw[this];rw[List.getElem?_eq_getElem hl]at hb;simpa using hb
  have e1:za4 (.tuple #[.string s,.int .i64 (i:Nat)])=s:=rfl;have e2:za1 (.tuple #[.string s,.int .i64 (i:Nat)])=i:=by simp[za1]
  have e3:Nat.blt i s.size=true:=Nat.ble_eq_true_of_le hi;have e4:((i:Nat):Int)=0↔i=0:=by omega
  rw[←hS];simp only[qd0,qg0,e1,e2,e3];simp only[zdX,zft,zaZ,zbh,zb8,zad,s_br,zan,zd7,za3,zbQ,qg0,if_true,decide_eq_true_eq,e4];by_cases hasc:b.toNat<128
  ·have hd:=decode_ascii s i hi (by rw[hsb];exact hasc);rw[hsb]at hd;simp only[hd];unfold zfl zpl;generalize ((b.toNat:Nat):Int)=x;by_cases a1:x≥97<;>by_cases a2:x≤122<;>by_cases a3:x≥65<;>by_cases a4:x≤90<;>by_cases a5:x=95<;>by_cases a6:i=0<;>simp[a1,a2,a3,a4,a5,a6] <;>
    (by_cases a7:x<48<;>by_cases a8:x>57<;>simp[a7,a8])
  ·have hd:=decode_high s i hi (by rw[hsb];omega);generalize Utf8.decode s i=q at hd ⊢;obtain⟨r,wd⟩:=q;have k1:¬((r:Nat):Int)≤122:=by have:=hd.1;dsimp only at this;omega
   have k2:¬((r:Nat):Int)≤90:=by omega
   have k3:¬((r:Nat):Int)=95:=by omega
   have k4:¬((r:Nat):Int)<48:=by omega
   have k5:((r:Nat):Int)>57:=by omega
   rw[znj (by omega),zpk (by omega)];simp[k1,k2,k3,k4,k5]
 have hend:S [.tuple #[.string s,.int .i64 (s.size:Nat)]] H=some (.exit 0,[.tuple #[.string s,.int .i64 (s.size:Nat)]],H):=by
  have e1:za4 (.tuple #[.string s,.int .i64 (s.size:Nat)])=s:=rfl;have e2:za1 (.tuple #[.string s,.int .i64 (s.size:Nat)])=s.size:=by simp[za1]
  have e3:Nat.blt s.size s.size=false:=by
   cases hq:Nat.blt s.size s.size with
   |false=>rfl
   |true=>have:=Nat.le_of_ble_eq_true hq;omega
  rw[←hS];simp only[qd0,qg0,e1,e2,e3];rfl
 have hloop:∀(r:List UInt8) (i:Nat),s.data.toList.drop i=r→i≤s.size→1≤i→zau S [.tuple #[.string s,.int .i64 (i:Nat)]] H=if r.all zjC=true then some (.exit 0,[.tuple #[.string s,.int .i64 (s.size:Nat)]],H) else some (.ret,[.bool false],H):=by
  intro r;induction r with
  |nil=>
   intro i hd hi h1;have:s.data.toList.length≤i:=by simpa using hd
   have:i=s.size:=by omega
   subst this;rw[zah,hend];simp[zjd]
  |cons b r ih=>
   intro i hd hi h1;have hb:s.data.toList[i]?=some b:=by
    have:(s.data.toList.drop i)[0]?=some b:=by rw[hd];rfl
    rw[List.getElem?_drop]at this;simpa using this
   have hl:i<s.data.toList.length:=(List.getElem?_eq_some_iff.1 hb).1;have hd':s.data.toList.drop (i+1)=r:=by rw[←drop_drop,hd];rfl
   have hne:decide (i≠0)=true:=decide_eq_true (by omega);have hok:(zfl (b.toNat:Int)||(decide (i≠0)&&zpl (b.toNat:Int)))=zjC b:=by rw[hne];rfl
   rw[zah,hstep i b hb,hok];cases hk:zjC b with
   |true=>
    simp only[if_true,Option.bind_some,zjd];rw[ih (i+1) hd' (by omega) (by omega)];simp[hk]
   |false=>simp[hk,zjd]
 simp only[s_slen,zbh,zb8,zad,s_br,decide_eq_true_eq];unfold zcu;by_cases h1:(s.size:Int)<1
 ·have:¬s.size≥1:=by omega
  simp[h1,this,zan,zeK]
 by_cases h2:(s.size:Int)>24
 ·have:¬s.size≤24:=by omega
  simp[h1,h2,this,zan,zeK]
 have g1:s.size≥1:=by omega
 have g2:s.size≤24:=by omega
 obtain⟨c,r,hcr⟩:∃c r,s.data.toList=c::r:=by
  cases hq:s.data.toList with
  |nil=>rw[hq]at hlen;simp at hlen;omega
  |cons c r=>exact⟨c,r,rfl⟩
 simp only[h1,h2,if_false,zan,za3];have h0:s.data.toList[0]?=some c:=by rw[hcr];rfl
 have hd1:s.data.toList.drop 1=r:=by rw[hcr];rfl
 have hlp:=hloop r 1 hd1 g1 (Nat.le_refl _);have hst:=hstep 0 c h0;have hfirst:zau S [.tuple #[.string s,.int .i64 ((0:Nat):Int)]] H=if zfl (c.toNat:Int)=true then (if r.all zjC=true then some (.exit 0,[.tuple #[.string s,.int .i64 (s.size:Nat)]],H) else some (.ret,[.bool false],H)) else some (.ret,[.bool false],H):=by
  rw[zah,hst];cases hc:zfl (c.toNat:Int) with
  |false=>simp[zjd]
  |true=>
   simp only[Bool.true_or,if_true,Option.bind_some,zjd];exact hlp
 show (zaw (zau S [.tuple #[.string s,.int .i64 ((0:Nat):Int)]] H) _)=_;rw[hfirst,hd1,hcr];cases hc:zfl (c.toNat:Int) with
 |false=>simp[g1,g2,hc,zan,zeK]
 |true=>
  cases r.all zjC with
  |true=>simp[g1,g2,hc,zan,za6,zaC]
  |false=>simp[g1,g2,hc,zan,zeK]
end Go.AM
namespace Go.AM
open Go
def zmz(b:Bool)(k:Option Bool):Option Bool:=match some b with|some true=>k|r=>r
theorem eq36c(n m:Nd):eqT PP 10000 Am n.val m.val =
  zmz (n.op==m.op) (zmz (n.w==m.w) (zmz (n.a==m.a) (zmz (n.b==m.b) (zmz (n.c==m.c) (zmz (n.num==m.num) (zmz (n.name==m.name) (some true))))))):=by
 kernel_rfl
def zjD(n m:Nd):Bool:=n.op==m.op&&(n.w==m.w&&(n.a==m.a&&(n.b==m.b&&(n.c==m.c&&(n.num==m.num&&n.name==m.name)))))
theorem eq36(n m:Nd):eqT PP 10000 Am n.val m.val=some (zjD n m):=by rw[eq36c];unfold zjD;cases n.op==m.op<;>cases n.w==m.w<;>cases n.a==m.a<;>cases n.b==m.b<;>cases n.c==m.c<;>cases n.num==m.num<;>cases n.name==m.name<;>rfl
theorem eq9(s t:ByteArray):eqT PP 10000 Ac (.string s) (.string t)=some (s==t):=by kernel_rfl
theorem shape36(n:Nd):zdW PP 20 Am n.val=true:=by kernel_rfl
theorem zlk(s:ByteArray):zdW PP 20 Ac (.string s)=true:=by kernel_rfl
def zdU:Nat→List Nd→List (Value×Value)
 |_,[]=>[]
 |i,n::r=>(n.val,.int .i64 ((i+1:Nat):Int))::zdU (i+1) r
def zbf(n:Nd):Nat→List Nd→Option Nat
 |_,[]=>none
 |i,m::r=>if zjD n m=true then some i else zbf n (i+1) r
theorem find36(n:Nd):∀(L:List Nd) (i j:Nat),zet PP Am n.val (zdU i L) j=some ((zbf n i L).map fun q=>(q-i+j,.int .i64 ((q+1:Nat):Int)))
 |[],i,j=>rfl
 |m::r,i,j=>by
  unfold zdU zet zbf;rw[eq36];cases h:zjD n m with
  |true=>simp
  |false=>
   simp only[Bool.false_eq_true,if_false];rw[find36 n r (i+1) (j+1)];cases hp:zbf n (i+1) r with
   |none=>rfl
   |some q=>
    have:i+1≤q:=by
     have aux:∀(L:List Nd) (i q:Nat),zbf n i L=some q→i≤q:=by
      intro L;induction L with
      |nil=>intro i q h;cases h
      |cons m L ih=>
       intro i q h;unfold zbf at h;split at h
       ·cases h;exact Nat.le_refl _
       ·have:=ih (i+1) q h;omega
     exact aux r (i+1) q hp
    simp;omega
theorem look36{H:Hp}{f:Nat}{L:List Nd}(h:H.get f=some (.map (zdU 0 L)))(n:Nd):lookV PP Am (.int .i64 0) (.map (some f)) n.val H =
  some (match zbf n 0 L with|some q=>(.int .i64 ((q+1:Nat):Int),true)|none=>(.int .i64 0,false)):=by
 unfold lookV;rw[shape36];simp only[if_true,znc,h,find36];cases zbf n 0 L<;>rfl
end Go.AM
namespace Go.AM
open List Go
theorem zc9(s t:ByteArray):(s==t)=true↔s=t:=by obtain⟨a⟩:=s;obtain⟨b⟩:=t;show (a==b)=true↔_;simp
theorem zjZ(n:Nd):∀(L:List Nd) (i:Nat),zdU i (L++[n])=zdU i L++[(n.val,.int .i64 ((i+L.length+1:Nat):Int))]
 |[],i=>rfl
 |m::r,i=>by show (m.val,_)::zdU (i+1) (r++[n])=_;rw[zjZ n r (i+1)];simp only[zdU,cons_append,length_cons];rw[show i+1+r.length+1=i+(r.length+1)+1 by omega]
theorem upd36{H:Hp}{f:Nat}{L:List Nd}(h:H.get f=some (.map (zdU 0 L)))(n:Nd)(hn:zbf n 0 L=none) :
  updV PP Am (.map (some f)) n.val (.int .i64 ((L.length+1:Nat):Int)) H=some (H.set f (some (.map (zdU 0 (L++[n]))))):=by
 unfold updV;rw[shape36];simp only[if_true,h,find36,hn,Option.map_none];rw[zjZ,Nat.zero_add]
def zdL(K:List (ByteArray×Int)):List (Value×Value):=K.map fun x=>(.string x.1,.int .i64 x.2)
def zaX(s:ByteArray):Nat→List (ByteArray×Int)→Option (Nat×Int)
 |_,[]=>none
 |i,(t,w)::r=>if (s==t)=true then some (i,w) else zaX s (i+1) r
theorem find9(s:ByteArray):∀(K:List (ByteArray×Int)) (i:Nat),zet PP Ac (.string s) (zdL K) i=some ((zaX s i K).map fun q=>(q.1,.int .i64 q.2))
 |[],i=>rfl
 |(t,w)::r,i=>by
  show (match eqT PP 10000 Ac (.string s) (.string t) with|some true=>some (some (i,Value.int .i64 w))|some false=>zet PP Ac (.string s) (zdL r) (i+1)|none=>none)=_;rw[eq9];unfold zaX;cases h:s==t with
  |true=>simp
  |false=>
   simp only[Bool.false_eq_true,if_false];exact find9 s r (i+1)
theorem look9{H:Hp}{g:Nat}{K:List (ByteArray×Int)}(h:H.get g=some (.map (zdL K)))(s:ByteArray):lookV PP Ac (.int .i64 0) (.map (some g)) (.string s) H =
  some (match zaX s 0 K with|some q=>(.int .i64 q.2,true)|none=>(.int .i64 0,false)):=by
 unfold lookV;rw[zlk];simp only[if_true,znc,h,find9];cases zaX s 0 K<;>rfl
theorem zjJ(s:ByteArray):∀(K:List (ByteArray×Int)) (i j:Nat) (w:Int),zaX s i K=some (j,w)→i≤j∧K[j-i]?=some (s,w)
 |[],i,j,w,h=>by cases h
 |(t,u)::r,i,j,w,h=>by
  unfold zaX at h;split at h
  ·rename_i e;cases h;have:s=t:=(zc9 s t).1 e;subst this;exact⟨Nat.le_refl _,by simp⟩
  ·obtain⟨h1,h2⟩:=zjJ s r (i+1) j w h;refine⟨by omega,?_⟩;rw[show j-i=(j-(i+1))+1 by omega];simpa using h2
def zbt(s:ByteArray)(w:Int)(K:List (ByteArray×Int)):List (ByteArray×Int):=match zaX s 0 K with|some _=>K|none=>K++[(s,w)]
theorem upd9{H:Hp}{g:Nat}{K:List (ByteArray×Int)}(h:H.get g=some (.map (zdL K)))(s:ByteArray)(w:Int)(hw:∀j u,zaX s 0 K=some (j,u)→u=w) :
  updV PP Ac (.map (some g)) (.string s) (.int .i64 w) H=some (H.set g (some (.map (zdL (zbt s w K))))):=by
 unfold updV zbt;rw[zlk];simp only[if_true,h,find9];cases hq:zaX s 0 K with
 |none=>simp[zdL]
 |some q=>
  obtain⟨j,u⟩:=q;have hu:=hw j u hq;subst hu;obtain⟨_,h2⟩:=zjJ s K 0 j u hq;rw[Nat.sub_zero]at h2;have hk:(zdL K)[j]?=some (.string s,.int .i64 u):=by unfold zdL;rw[List.getElem?_map,h2];rfl
  have hset:zhj (zdL K) j (.string s) (.int .i64 u)=zdL K:=by
   unfold zhj;apply ext_getElem?;intro i;rw[List.getElem?_set];split
   ·rename_i e;subst e;rw[if_pos (List.getElem?_eq_some_iff.1 hk).1,hk]
   ·rfl
  have hsb:Instr.sameBits 10000 (.string s) (.string s)=true:=by simp only[Instr.sameBits];exact(zc9 s s).2 rfl
  simp only[Option.map_some,hk,hsb,if_true,hset]
def slId:Value→Option Nat
 |.slice (some a) _ _=>some a.block
 |_=>none
theorem zgm(H:Hp)(o:AObj)(i:Nat):(H.new o).get i=if i=H.next then some o else H.get i:=rfl
theorem zno(H:Hp)(j:Nat)(o:Option AObj)(i:Nat):(H.set j o).get i=if i=j then o else H.get i:=rfl
theorem zmc(H:Hp)(j:Nat)(o:Option AObj):(H.set j o).next=H.next:=rfl
theorem ziQ(n:Nd):n.cells.all one=true:=rfl
theorem zny{H:Hp}{sl:Value}{L:List Nd}(hsl:SlR H sl L){y:Nat}{own:Bool}{n:Nd}(hy:H.get y=some (.cells n.cells own))(hlt:∀i,slId sl=some i→i<H.next)(hb:(L.length+1)*64≤2^47) :
  ∃sl' H',zcP 7 64 sl (.slice (some ⟨y,0,some 7⟩) 1 1) H=some (sl',H')∧SlR H' sl' (L++[n])∧slId sl'=some H.next∧H'.next=H.next+1 ∧
   ∀j,j<H.next→slId sl≠some j→H'.get j=H.get j:=by
 have hsrc:zcQ 7 (.slice (some ⟨y,0,some 7⟩) 1 1) H=some (1,n.cells):=by simp[zcQ,hy,Nd.cells]
 rcases hsl with⟨rfl,rfl⟩|⟨i,rfl,hi⟩
 ·refine⟨.slice (some ⟨H.next,0,some 7⟩) 1 1,H.new (.cells n.cells true),?_,.inr ⟨H.next,rfl,?_⟩,rfl,rfl,fun j hj _=>?_⟩
  ·unfold zcP;rw[hsrc];simp[ziQ]
  ·rw[zgm,if_pos rfl];simp
  ·rw[zgm,if_neg (by omega)]
 ·refine⟨.slice (some ⟨H.next,0,some 7⟩) (L.length+1) (L.length+1),(H.set i none).new (.cells (L.flatMap Nd.cells++n.cells) true),?_,.inr ⟨H.next,by simp,?_⟩,rfl,rfl,fun j hj hne=>?_⟩
  ·unfold zcP;rw[hsrc];have h1:¬L.length+1≤L.length:=by omega
   have h2:(L.flatMap Nd.cells).take (L.length*7)=L.flatMap Nd.cells:=take_of_length_le (by rw[flat_len];omega);have h3:0+L.length*7≤(L.flatMap Nd.cells).length:=by rw[flat_len];omega
   simp only[ne_eq,not_true_eq_false,if_false,hi,h1,Nat.one_ne_zero,false_and,h3,hb,ziQ,and_self,if_true,qd0,h2]
  ·rw[zgm,if_pos (zmc _ _ _).symm];simp[flatMap_append]
  ·have:j≠i:=fun e=>hne (by rw[e];rfl);rw[zgm,zmc,if_neg (by omega),zno,if_neg this]
end Go.AM
namespace Go.AM
open Go
noncomputable def tailM(p:Nat)(n:Nd)(H:Hp):Option (Value×Hp):=
 (pNil (.pointer (some ⟨p,0,none⟩)) (
 zav 1 (.pointer (some ⟨p,0,none⟩)) fun p124=>
 zak 1 false H p124 fun v125=>
 zaj 7 true (zab n.val) 0 fun v126=>
 zal 7 [.int .i64 0,.int .i64 0,.int .i64 0,.int .i64 0,.int .i64 0,.int .u64 0,.string ⟨#[]⟩] 1 [(0,v126)] H fun v127 H128=>
 chk (Hp.rdP H128 p124 1 false=some v125) (
 zaF 7 64 v125 v127 H128 fun v129 H130=>
 pNil (.pointer (some ⟨p,0,none⟩)) (
 zav 1 (.pointer (some ⟨p,0,none⟩)) fun p131=>
 zas 1 H130 p131 v129 fun H132=>
 pNil (.pointer (some ⟨p,0,none⟩)) (
 zav 2 (.pointer (some ⟨p,0,none⟩)) fun p133=>
 zak 1 false H132 p133 fun v134=>
 zaj 7 true (zab n.val) 0 fun v135=>
 pNil (.pointer (some ⟨p,0,none⟩)) (
 zav 1 (.pointer (some ⟨p,0,none⟩)) fun p136=>
 zak 1 false H132 p136 fun v137=>
 pLen .sl v137 H132 fun v138=>
 pUpd PP Am v134 v135 v138 H132 fun H139=>
 zaj 1 false (zab n.val) 0 fun v140=>
 pBin PP .eql Aa v140 (.int .i64 4) fun v141=>
 zaa v141 fun b142=>br b142
 (pNil (.pointer (some ⟨p,0,none⟩)) (
 zav 3 (.pointer (some ⟨p,0,none⟩)) fun p143=>
 zak 1 false H139 p143 fun v144=>
 zaj 1 false (zab n.val) 6 fun v145=>
 zaj 1 false (zab n.val) 1 fun v146=>
 pUpd PP Ac v144 v145 v146 H139 fun H147=>
 pNil (.pointer (some ⟨p,0,none⟩)) (
 zav 1 (.pointer (some ⟨p,0,none⟩)) fun p148=>
 zak 1 false H147 p148 fun v149=>
 pLen .sl v149 H147 fun v150=>
 some ((.tuple #[v150,(.int .i64 0)]),H147))))
 (pNil (.pointer (some ⟨p,0,none⟩)) (
 zav 1 (.pointer (some ⟨p,0,none⟩)) fun p151=>
 zak 1 false H139 p151 fun v152=>
 pLen .sl v152 H139 fun v153=>
 some ((.tuple #[v153,(.int .i64 0)]),H139)))))))))
theorem zj7(n:Nd)(H:Hp){α:Type}(k:Value→Hp→Option α) :
  zal 7 [.int .i64 0,.int .i64 0,.int .i64 0,.int .i64 0,.int .i64 0,.int .u64 0,.string ⟨#[]⟩] 1 [(0,n.val)] H k=k (.slice (some ⟨H.next,0,some 7⟩) 1 1) (H.new (.cells n.cells true)):=by
 have:zbY 7 [.int .i64 0,.int .i64 0,.int .i64 0,.int .i64 0,.int .i64 0,.int .u64 0,.string ⟨#[]⟩] 1 [(0,n.val)] H=some (.slice (some ⟨H.next,0,some 7⟩) 1 1,H.new (.cells n.cells true)):=by have h1:zab n.val=n.cells:=rfl;have h2:n.cells.length=7:=rfl;simp[zbY,repl,ziJ,h1,h2,ziQ,spl]
 unfold zal;rw[this]
theorem zko{α:Type}{q:Prop}(h:q)(k:Option α):chk q k=k:=by unfold chk;exact if_pos h
structure StF(H:Hp)(p:Nat)(lim:Int)(L:List Nd)(K:List (ByteArray×Int))(sl:Value)(f g:Nat):Prop where
 st:StR H p lim L sl f g
 fm:H.get f=some (.map (zdU 0 L))
 gm:H.get g=some (.map (zdL K))
 pf:p≠f
 pg:p≠g
 fg:f≠g
 lp:p<H.next
 lf:f<H.next
 lg:g<H.next
 sa:∀i,slId sl=some i→i≠p∧i≠f∧i≠g∧i<H.next
theorem store1{α:Type}{H:Hp}{p f g:Nat}{lim:Int}{sl:Value}(hs:H.get p=some (.cells [.int .i64 lim,sl,.map (some f),.map (some g)] true))(v:Value)(hv:zab v=[v])(h1:one v=true)(k:Hp→Option α) :
  zas 1 H (.pointer (some ⟨p,1,none⟩)) v k=k (H.set p (some (.cells [.int .i64 lim,v,.map (some f),.map (some g)] true))):=by
 have:H.wr (.pointer (some ⟨p,1,none⟩)) 1 v=some (H.set p (some (.cells [.int .i64 lim,v,.map (some f),.map (some g)] true))):=by simp[Hp.wr,hs,zbm,hv,h1,spl]
 unfold zas;rw[this]
theorem znP{α:Type}{n m:Nat}{s x:Value}{H:Hp}{v:Value}{H':Hp}(h:zcP n m s x H=some (v,H'))(k:Value→Hp→Option α):zaF n m s x H k=k v H':=by unfold zaF;rw[h]
theorem s_upd{α:Type}{P:Program}{kt:TypeId}{m key v:Value}{H H':Hp}(h:updV P kt m key v H=some H')(k:Hp→Option α):pUpd P kt m key v H k=k H':=by unfold pUpd;rw[h]
theorem tail_ok{H:Hp}{p f g:Nat}{lim:Int}{L:List Nd}{K:List (ByteArray×Int)}{sl:Value}(h:StF H p lim L K sl f g)(n:Nd)(hn:zbf n 0 L=none)(hw:n.op=4→∀j u,zaX n.name 0 K=some (j,u)→u=n.w)(hb:(L.length+1)*64≤2^47) :
  ∃H' sl',tailM p n H=some (.tuple #[.int .i64 ((L.length+1:Nat):Int),.int .i64 0],H')∧StF H' p lim (L++[n]) (if n.op=4 then zbt n.name n.w K else K) sl' f g∧H.next≤H'.next ∧
   (∀j,j<H.next→j≠p→j≠f→j≠g→slId sl≠some j→H'.get j=H.get j)∧(∀i,slId sl'=some i→H.next≤i):=by
 have hlp:=h.lp;have hlf:=h.lf;have hlg:=h.lg;have hH1:∀j,j<H.next→(H.new (.cells n.cells true)).get j=H.get j:=fun j hj=>by rw[zgm,if_neg (by omega)]
 have hsl1:SlR (H.new (.cells n.cells true)) sl L:=by
  rcases h.st.all with⟨e1,e2⟩|⟨i,e1,e2⟩
  ·exact .inl ⟨e1,e2⟩
  ·have:=(h.sa i (by rw[e1];rfl)).2.2.2;exact .inr ⟨i,e1,by rw[hH1 i this];exact e2⟩
 obtain⟨sl',H2,ha,hsl2,hid,hnx,hfr⟩:=zny hsl1 (y:=H.next) (own:=true) (n:=n) (by rw[zgm,if_pos rfl]) (fun i hi=>by have:=(h.sa i hi).2.2.2;show i<H.next+1;omega) hb;have hnx1:(H.new (.cells n.cells true)).next=H.next+1:=rfl;rw[hnx1]at hid hnx hfr;have hg2:∀j,j<H.next→slId sl≠some j→H2.get j=H.get j:=fun j hj hne=>by rw[hfr j (by omega) hne,hH1 j hj]
 have sp:slId sl≠some p:=fun e=>(h.sa p e).1 rfl;have sf:slId sl≠some f:=fun e=>(h.sa f e).2.1 rfl;have sg:slId sl≠some g:=fun e=>(h.sa g e).2.2.1 rfl;have hsl':∃c,sl'=.slice (some ⟨H.next+1,0,some 7⟩) (L++[n]).length c:=by
  rcases hsl2 with⟨e1,_⟩|⟨i,e1,_⟩
  ·simp at e1
  ·rw[e1]at hid;have:i=H.next+1:=by simpa[slId] using hid
   subst this;exact⟨_,e1⟩
 obtain⟨c,hslc⟩:=hsl';have hobj2:H2.get p=some (.cells [.int .i64 lim,sl,.map (some f),.map (some g)] true):=by rw[hg2 p hlp sp];exact h.st.obj
 have hcl:zab sl'=[sl']:=by rw[hslc];rfl
 have hone:one sl'=true:=by rw[hslc];rfl
 generalize hH3:H2.set p (some (.cells [.int .i64 lim,sl',.map (some f),.map (some g)] true))=H3;have g3:∀j,j≠p→H3.get j=H2.get j:=fun j hj=>by rw[←hH3,zno,if_neg hj]
 have obj3:H3.get p=some (.cells [.int .i64 lim,sl',.map (some f),.map (some g)] true):=by rw[←hH3,zno,if_pos rfl]
 have n3:H3.next=H.next+2:=by rw[←hH3,zmc,hnx]
 have hsl3:SlR H3 sl' (L++[n]):=by
  rcases hsl2 with⟨e1,_⟩|⟨i,e1,e2⟩
  ·simp at e1
  ·have:i=H.next+1:=by rw[e1]at hid;simpa[slId] using hid
   exact .inr ⟨i,e1,by rw[g3 i (by omega)];exact e2⟩
 have hf3:H3.get f=some (.map (zdU 0 L)):=by rw[g3 f (Ne.symm h.pf),hg2 f hlf sf];exact h.fm
 have hg3:H3.get g=some (.map (zdL K)):=by rw[g3 g (Ne.symm h.pg),hg2 g hlg sg];exact h.gm
 have st3:StR H3 p lim (L++[n]) sl' f g:=⟨obj3,hsl3⟩
 have hu:=upd36 hf3 n hn;generalize hH4:H3.set f (some (.map (zdU 0 (L++[n]))))=H4 at hu;have g4:∀j,j≠f→H4.get j=H3.get j:=fun j hj=>by rw[←hH4,zno,if_neg hj]
 have n4:H4.next=H.next+2:=by rw[←hH4,zmc,n3]
 have obj4:H4.get p=some (.cells [.int .i64 lim,sl',.map (some f),.map (some g)] true):=by rw[g4 p h.pf];exact obj3
 have hf4:H4.get f=some (.map (zdU 0 (L++[n]))):=by rw[←hH4,zno,if_pos rfl]
 have hg4:H4.get g=some (.map (zdL K)):=by rw[g4 g (Ne.symm h.fg)];exact hg3
 have hslk:∀{Hx:Hp},(∀j,j≠p→j≠f→j≠g→Hx.get j=H3.get j)→SlR Hx sl' (L++[n]):=fun hx=>by
  rcases hsl3 with⟨e1,_⟩|⟨i,e1,e2⟩
  ·simp at e1
  ·have:i=H.next+1:=by rw[e1]at hid;simpa[slId] using hid
   exact .inr ⟨i,e1,by rw[hx i (by omega) (by omega) (by omega)];exact e2⟩
 have st4:StR H4 p lim (L++[n]) sl' f g:=⟨obj4,hslk fun j _ hf _=>g4 j hf⟩
 have hlen:((L++[n]).length:Int)=((L.length+1:Nat):Int):=by simp
 have hapart:∀i,slId sl'=some i→i≠p∧i≠f∧i≠g∧i<H.next+2:=fun i hi=>by rw[hid]at hi;cases hi;exact⟨by omega,by omega,by omega,by omega⟩
 have hframe4:∀j,j<H.next→j≠p→j≠f→j≠g→slId sl≠some j→H4.get j=H.get j:=fun j a b c d e=>by rw[g4 j c,g3 j b,hg2 j a e]
 have hge:∀i,slId sl'=some i→H.next≤i:=fun i hi=>by rw[hid]at hi;cases hi;omega
 have hchk:Hp.rdP (H.new (.cells n.cells true)) (.pointer (some ⟨p,1,none⟩)) 1 false=some sl:=by simp[Hp.rdP,Hp.rd,hH1 p hlp,h.st.obj,zcf]
 by_cases hop:n.op=4
 ·have hu9:=upd9 hg4 n.name n.w (hw hop);generalize hH5:H4.set g (some (.map (zdL (zbt n.name n.w K))))=H5 at hu9;have g5:∀j,j≠g→H5.get j=H4.get j:=fun j hj=>by rw[←hH5,zno,if_neg hj]
  have n5:H5.next=H.next+2:=by rw[←hH5,zmc,n4]
  have obj5:H5.get p=some (.cells [.int .i64 lim,sl',.map (some f),.map (some g)] true):=by rw[g5 p h.pg];exact obj4
  have st5:StR H5 p lim (L++[n]) sl' f g:=⟨obj5,hslk fun j _ hf hg=>by rw[g5 j hg,g4 j hf]⟩
  refine⟨H5,sl',?_,⟨st5,?_,?_,h.pf,h.pg,h.fg,by omega,by omega,by omega,by rw[n5];exact hapart⟩,by omega,fun j a b c d e=>?_,hge⟩
  ·unfold tailM;simp only[zbA,zaK,Nat.zero_add,h.st.l1,n07,zj7];rw[zko hchk,znP ha,store1 hobj2 sl' hcl hone,hH3];simp only[st3.l1,st3.l2,hsl3.len,hlen];rw[s_upd hu];simp only[n0,n1,n6,zaZ,hop,decide_true,zad,s_br,if_true,st4.l3];rw[s_upd hu9];simp only[st5.l1,st5.all.len,hlen]
  ·rw[g5 f h.fg];exact hf4
  ·rw[if_pos hop,←hH5,zno,if_pos rfl]
  ·rw[g5 j d];exact hframe4 j a b c d e
 ·refine⟨H4,sl',?_,⟨st4,hf4,?_,h.pf,h.pg,h.fg,by omega,by omega,by omega,by rw[n4];exact hapart⟩,by omega,hframe4,hge⟩
  ·unfold tailM;simp only[zbA,zaK,Nat.zero_add,h.st.l1,n07,zj7];rw[zko hchk,znP ha,store1 hobj2 sl' hcl hone,hH3];simp only[st3.l1,st3.l2,hsl3.len,hlen];rw[s_upd hu];simp only[n0,zaZ,hop,decide_false,zad,s_br,Bool.false_eq_true,if_false,st4.l1,st4.all.len,hlen]
  ·rw[if_neg hop];exact hg4
end Go.AM
namespace Go.AM
open List Go
def zbP(L:List Nd)(n:Nd):Bool:=(decide (zai n.op≥1)&&!isT L n.a)||(decide (zai n.op≥2)&&!isT L n.b)||(decide (zai n.op≥3)&&!isT L n.c)
def zbn(K:List (ByteArray×Int))(n:Nd):Bool:=!zcu n.name||(match zaX n.name 0 K with|some q=>decide (q.2≠n.w)|none=>false)
def zcB(L:List Nd)(K:List (ByteArray×Int))(n:Nd):Int:=
 if n.op<1∨n.op>33 then 73 else if n.w<0∨n.w>64 then 5 else if zbP L n=true then 70 else if zd3 (zai n.op) n=true then 1
 else if zbz n.op (wT L (-1) n.a) (wT L (-1) n.b) (wT L (-1) n.c)=false then 71 else if zbO n (wT L (-1) n.a) (wT L (-1) n.b)=false then 5
 else if n.op=4∧zbn K n=true then 72 else 0
def mkR(lim:Int)(L:List Nd)(K:List (ByteArray×Int))(n:Nd):Int×Int×List Nd×List (ByteArray×Int):=
 if zcB L K n≠0 then (0,zcB L K n,L,K) else match zbf n 0 L with
  |some q=>(((q+1:Nat):Int),0,L,K)
  |none=>if lim>0∧(L.length:Int)≥lim then (0,4,L,K) else (((L.length+1:Nat):Int),0,L++[n],if n.op=4 then zbt n.name n.w K else K)
theorem wT_bd{L:List Nd}(h:∀m∈L,0≤m.w∧m.w≤64)(t:Int):-1≤wT L (-1) t∧wT L (-1) t≤64:=by
 unfold wT;split
 ·cases hq:L[(t-1).toNat]? with
  |none=>simp
  |some m=>
   have:=h m (mem_of_getElem? hq);simp;omega
 ·omega
end Go.AM
namespace Go.AM
open Go
theorem zgZ{α:Type}{P:Program}{kt:TypeId}{z m key v:Value}{b:Bool}{H:Hp}(h:lookV P kt z m key H=some (v,b))(k:Value→Option α):za7 P kt z m key true H k=k (.tuple #[v,.bool b]):=by unfold za7;rw[h]
theorem s_ext0{α:Type}(x y:Value)(k:Value→Option α):zac (.tuple #[x,y]) 0 k=k x:=rfl
theorem s_ext1{α:Type}(x y:Value)(k:Value→Option α):zac (.tuple #[x,y]) 1 k=k y:=rfl
noncomputable def zks(p:Nat)(n:Nd)(H:Hp):Option (Value×Hp):=
 pNil (.pointer (some ⟨p,0,none⟩)) (
 zav 2 (.pointer (some ⟨p,0,none⟩)) fun p102=>
 zak 1 false H p102 fun v103=>
 zaj 7 true (zab n.val) 0 fun v104=>
 za7 PP Am (.int .i64 0) v103 v104 true H fun v105=>
 zac v105 0 fun v106=>
 zac v105 1 fun v107=>
 zaa v107 fun b108=>br b108
 (some ((.tuple #[v106,(.int .i64 0)]),H))
 (zaw (
 pNil (.pointer (some ⟨p,0,none⟩)) (
 zav 0 (.pointer (some ⟨p,0,none⟩)) fun p109=>
 zak 1 false H p109 fun v110=>
 pBin PP .gtr Aa v110 (.int .i64 0) fun v111=>
 zaa v111 fun b112=>br b112
 (pNil (.pointer (some ⟨p,0,none⟩)) (
 zav 1 (.pointer (some ⟨p,0,none⟩)) fun p113=>
 zak 1 false H p113 fun v114=>
 pLen .sl v114 H fun v115=>
 pNil (.pointer (some ⟨p,0,none⟩)) (
 zav 0 (.pointer (some ⟨p,0,none⟩)) fun p116=>
 zak 1 false H p116 fun v117=>
 pBin PP .geq Aa v115 v117 fun v118=>
 zaa v118 fun b119=>br b119
 (some (.ret,[(.tuple #[(.int .i64 0),(.int .i64 4)])],H))
 (some (.next,[],H)))))
 (some (.next,[],H)))) fun q120 l121 H122=>zaG q120
 (pNil (.pointer (some ⟨p,0,none⟩)) (
 zav 1 (.pointer (some ⟨p,0,none⟩)) fun p124=>
 zak 1 false H122 p124 fun v125=>
 zaj 7 true (zab n.val) 0 fun v126=>
 zal 7 [.int .i64 0,.int .i64 0,.int .i64 0,.int .i64 0,.int .i64 0,.int .u64 0,.string ⟨#[]⟩] 1 [(0,v126)] H122 fun v127 H128=>
 chk (Hp.rdP H128 p124 1 false=some v125) (
 zaF 7 64 v125 v127 H128 fun v129 H130=>
 pNil (.pointer (some ⟨p,0,none⟩)) (
 zav 1 (.pointer (some ⟨p,0,none⟩)) fun p131=>
 zas 1 H130 p131 v129 fun H132=>
 pNil (.pointer (some ⟨p,0,none⟩)) (
 zav 2 (.pointer (some ⟨p,0,none⟩)) fun p133=>
 zak 1 false H132 p133 fun v134=>
 zaj 7 true (zab n.val) 0 fun v135=>
 pNil (.pointer (some ⟨p,0,none⟩)) (
 zav 1 (.pointer (some ⟨p,0,none⟩)) fun p136=>
 zak 1 false H132 p136 fun v137=>
 pLen .sl v137 H132 fun v138=>
 pUpd PP Am v134 v135 v138 H132 fun H139=>
 zaj 1 false (zab n.val) 0 fun v140=>
 pBin PP .eql Aa v140 (.int .i64 4) fun v141=>
 zaa v141 fun b142=>br b142
 (pNil (.pointer (some ⟨p,0,none⟩)) (
 zav 3 (.pointer (some ⟨p,0,none⟩)) fun p143=>
 zak 1 false H139 p143 fun v144=>
 zaj 1 false (zab n.val) 6 fun v145=>
 zaj 1 false (zab n.val) 1 fun v146=>
 pUpd PP Ac v144 v145 v146 H139 fun H147=>
 pNil (.pointer (some ⟨p,0,none⟩)) (
 zav 1 (.pointer (some ⟨p,0,none⟩)) fun p148=>
 zak 1 false H147 p148 fun v149=>
 pLen .sl v149 H147 fun v150=>
 some ((.tuple #[v150,(.int .i64 0)]),H147))))
 (pNil (.pointer (some ⟨p,0,none⟩)) (
 zav 1 (.pointer (some ⟨p,0,none⟩)) fun p151=>
 zak 1 false H139 p151 fun v152=>
 pLen .sl v152 H139 fun v153=>
 some ((.tuple #[v153,(.int .i64 0)]),H139)))))))))
 (fun i123=>none)
 (some ((l121.headD undef),H122))))
def okR(lim:Int)(L:List Nd)(K:List (ByteArray×Int))(n:Nd):Int×Int×List Nd×List (ByteArray×Int):=
 match zbf n 0 L with
  |some q=>(((q+1:Nat):Int),0,L,K)
  |none=>if lim>0∧(L.length:Int)≥lim then (0,4,L,K) else (((L.length+1:Nat):Int),0,L++[n],if n.op=4 then zbt n.name n.w K else K)
structure MkOk(H:Hp)(p:Nat)(lim:Int)(sl:Value)(f g:Nat)(r:Int×Int×List Nd×List (ByteArray×Int))(H':Hp)(sl':Value):Prop where
 st:StF H' p lim r.2.2.1 r.2.2.2 sl' f g
 next:H.next≤H'.next
 frame:∀j,j<H.next→j≠p→j≠f→j≠g→slId sl≠some j→H'.get j=H.get j
 own:∀i,slId sl'=some i→slId sl=some i∨H.next≤i
theorem MkOk.stay{H:Hp}{p f g:Nat}{lim:Int}{L:List Nd}{K:List (ByteArray×Int)}{sl:Value}(h:StF H p lim L K sl f g){r:Int×Int×List Nd×List (ByteArray×Int)}(hr:r.2.2=(L,K)):MkOk H p lim sl f g r H sl:=
 ⟨by rw[hr];exact h,Nat.le_refl _,fun _ _ _ _ _ _=>rfl,fun i hi=>.inl hi⟩
theorem rest_ok{H:Hp}{p f g:Nat}{lim:Int}{L:List Nd}{K:List (ByteArray×Int)}{sl:Value}(h:StF H p lim L K sl f g)(n:Nd)(hw:n.op=4→∀j u,zaX n.name 0 K=some (j,u)→u=n.w)(hb:(L.length+1)*64≤2^47) :
  ∃H' sl',zks p n H=some (.tuple #[.int .i64 (okR lim L K n).1,.int .i64 (okR lim L K n).2.1],H')∧MkOk H p lim sl f g (okR lim L K n) H' sl':=by
 have hl36:=look36 h.fm n;unfold okR;cases hq:zbf n 0 L with
 |some q=>
  rw[hq]at hl36;refine⟨H,sl,?_,MkOk.stay h rfl⟩;unfold zks;simp only[zbA,zaK,Nat.zero_add,h.st.l2,n07,zgZ hl36,x01,zad,s_br,if_true]
 |none=>
  rw[hq]at hl36;by_cases hlim:lim>0∧(L.length:Int)≥lim
  ·refine⟨H,sl,?_,MkOk.stay h (by simp only[if_pos hlim])⟩;unfold zks;simp only[zbA,zaK,Nat.zero_add,Nat.add_zero,h.st.l0,h.st.l1,h.st.l2,h.st.all.len,n07,zgZ hl36,x01,zad,s_br,zb8,zdX,hlim.1,hlim.2,decide_true,Bool.false_eq_true,if_false,if_true,zan,zeK,zfh,if_pos hlim,and_self]
  ·obtain⟨H',sl',h1,h2,h3,h4,h5⟩:=tail_ok h n hq hw hb;rw[if_neg hlim];refine⟨H',sl',?_,⟨h2,h3,h4,fun i hi=>.inr (h5 i hi)⟩⟩;rw[←h1];unfold zks;by_cases l1:lim>0
   ·have l2:¬((L.length:Int)≥lim):=fun q=>hlim ⟨l1,q⟩;simp only[zbA,zaK,Nat.zero_add,Nat.add_zero,h.st.l0,h.st.l1,h.st.l2,h.st.all.len,n07,zgZ hl36,x01,zad,s_br,zb8,zdX,l1,l2,decide_true,decide_false,Bool.false_eq_true,if_false,if_true,zan,za3,zfh];unfold tailM;simp only[zbA,zaK,Nat.zero_add,Nat.add_zero,h.st.l0,h.st.l1,h.st.l2,h.st.all.len,n07,s_br]
   ·simp only[zbA,zaK,Nat.zero_add,Nat.add_zero,h.st.l0,h.st.l1,h.st.l2,h.st.all.len,n07,zgZ hl36,x01,zad,s_br,zb8,zdX,l1,decide_true,decide_false,Bool.false_eq_true,if_false,if_true,zan,za3,zfh];unfold tailM;simp only[zbA,zaK,Nat.zero_add,Nat.add_zero,h.st.l0,h.st.l1,h.st.l2,h.st.all.len,n07,s_br]
theorem zhu{α:Type}(a b c:Int)(k:Value→Option α):zaE PP Br [(0,.int .i64 a),(1,.int .i64 b),(2,.int .i64 c)] k=k (.agg #[.int .i64 a,.int .i64 b,.int .i64 c]):=by
 have:zgt PP Br [(0,.int .i64 a),(1,.int .i64 b),(2,.int .i64 c)]=some (.agg #[.int .i64 a,.int .i64 b,.int .i64 c]):=by kernel_rfl
 unfold zaE;rw[this]
theorem s_arr0{α:Type}(a b c:Value)(k:Value→Option α):zcj 3 false 1 (.agg #[a,b,c]) (.int .i64 0) k=k a:=rfl
theorem s_arr1{α:Type}(a b c:Value)(k:Value→Option α):zcj 3 false 1 (.agg #[a,b,c]) (.int .i64 1) k=k b:=rfl
theorem s_arr2{α:Type}(a b c:Value)(k:Value→Option α):zcj 3 false 1 (.agg #[a,b,c]) (.int .i64 2) k=k c:=rfl
theorem loop3{H:Hp}{p f g:Nat}{lim:Int}{L:List Nd}{sl:Value}(hs:StR H p lim L sl f g)(n:Nd)(S:List Value→Hp→Option Outc)
  (hS:S=fun (l25:List Value) (H26:Hp)=>
 pBin PP .lss Aa (l25.getD 0 undef) (.int .i64 3) fun v27=>
 zaa v27 fun b28=>br b28
 (zcj 3 false 1 (.agg #[.int .i64 n.a,.int .i64 n.b,.int .i64 n.c]) (l25.getD 0 undef) fun v29=>
 zae RR Av [.int .i64 n.op] H26 fun r31 H32=>
 pBin PP .lss Aa (l25.getD 0 undef) r31 fun v33=>
 zaa v33 fun b34=>br b34
 (zae RR AH [.pointer (some ⟨p,0,none⟩),v29] H32 fun r35 H36=>
 pUn .not r35 fun v37=>
 zaa v37 fun b38=>br b38
 (some (.ret,[(.tuple #[(.int .i64 0),(.int .i64 70)])],H36))
 (pBin PP .add Aa (l25.getD 0 undef) (.int .i64 1) fun v39=>
 some (.next,[v39],H36)))
 (pBin PP .add Aa (l25.getD 0 undef) (.int .i64 1) fun v40=>
 some (.next,[v40],H32)))
 (some (.exit 0,[(l25.getD 0 undef)],H26))) :
  zau S [.int .i64 0] H=if zbP L n=true then some (.ret,[.tuple #[.int .i64 0,.int .i64 70]],H) else some (.exit 0,[.int .i64 3],H):=by
 have w1:IntKind.i64.wrap (0+1)=1:=by decide
 have w2:IntKind.i64.wrap (1+1)=2:=by decide
 have w3:IntKind.i64.wrap (2+1)=3:=by decide
 have e0:zau S [.int .i64 0] H=if (decide (zai n.op≥1)&&!isT L n.a)=true then some (.ret,[.tuple #[.int .i64 0,.int .i64 70]],H) else zau S [.int .i64 1] H:=by
  rw[zah];have:S [.int .i64 0] H=if (decide (zai n.op≥1)&&!isT L n.a)=true then some (.ret,[.tuple #[.int .i64 0,.int .i64 70]],H) else some (.next,[.int .i64 1],H):=by
   rw[hS];simp only[zbh,zad,s_br,qg0,s_arr0,zag (c29 _ _),zag (c19 hs),zbQ,zaU,w1,decide_eq_true_eq];by_cases q:0<zai n.op
   ·have q2:zai n.op≥1:=by omega
    cases isT L n.a<;>simp[q,q2]
   ·have q2:¬zai n.op≥1:=by omega
    simp[q,q2]
  rw[this];split<;>rfl
 have e1:zau S [.int .i64 1] H=if (decide (zai n.op≥2)&&!isT L n.b)=true then some (.ret,[.tuple #[.int .i64 0,.int .i64 70]],H) else zau S [.int .i64 2] H:=by
  rw[zah];have:S [.int .i64 1] H=if (decide (zai n.op≥2)&&!isT L n.b)=true then some (.ret,[.tuple #[.int .i64 0,.int .i64 70]],H) else some (.next,[.int .i64 2],H):=by
   rw[hS];simp only[zbh,zad,s_br,qg0,s_arr1,zag (c29 _ _),zag (c19 hs),zbQ,zaU,w2,decide_eq_true_eq];by_cases q:1<zai n.op
   ·have q2:zai n.op≥2:=by omega
    cases isT L n.b<;>simp[q,q2]
   ·have q2:¬zai n.op≥2:=by omega
    simp[q,q2]
  rw[this];split<;>rfl
 have e2:zau S [.int .i64 2] H=if (decide (zai n.op≥3)&&!isT L n.c)=true then some (.ret,[.tuple #[.int .i64 0,.int .i64 70]],H) else zau S [.int .i64 3] H:=by
  rw[zah];have:S [.int .i64 2] H=if (decide (zai n.op≥3)&&!isT L n.c)=true then some (.ret,[.tuple #[.int .i64 0,.int .i64 70]],H) else some (.next,[.int .i64 3],H):=by
   rw[hS];simp only[zbh,zad,s_br,qg0,s_arr2,zag (c29 _ _),zag (c19 hs),zbQ,zaU,w3,decide_eq_true_eq];by_cases q:2<zai n.op
   ·have q2:zai n.op≥3:=by omega
    cases isT L n.c<;>simp[q,q2]
   ·have q2:¬zai n.op≥3:=by omega
    simp[q,q2]
  rw[this];split<;>rfl
 have e3:zau S [.int .i64 3] H=some (.exit 0,[.int .i64 3],H):=by
  rw[zah];have:S [.int .i64 3] H=some (.exit 0,[.int .i64 3],H):=by rw[hS];simp[zbh,zad,s_br]
  rw[this];rfl
 rw[e0,e1,e2,e3];unfold zbP;cases decide (zai n.op≥1)&&!isT L n.a<;>cases decide (zai n.op≥2)&&!isT L n.b<;>cases decide (zai n.op≥3)&&!isT L n.c<;>rfl
theorem c22r{H:Hp}{p f g:Nat}{lim:Int}{L:List Nd}{K:List (ByteArray×Int)}{sl:Value}(h:StF H p lim L K sl f g)(n:Nd)(hnum:0≤n.num∧n.num<18446744073709551616)
  (hW:∀m∈L,0≤m.w∧m.w≤64) (hb:(L.length+1)*64≤2^47) :
  RR Ar [.pointer (some ⟨p,0,none⟩),n.val] H=if zcB L K n≠0 then some (.tuple #[.int .i64 0,.int .i64 (zcB L K n)],H) else zks p n H:=by
 have hL:(L.length:Int)≤4611686018427387904:=by omega
 have ha:=wT_bd hW n.a;have hbd:=wT_bd hW n.b;have stay:∀e:Int,zcB L K n=e→e≠0→RR Ar [.pointer (some ⟨p,0,none⟩),n.val] H=some (.tuple #[.int .i64 0,.int .i64 e],H) →
   RR Ar [.pointer (some ⟨p,0,none⟩),n.val] H=if zcB L K n≠0 then some (.tuple #[.int .i64 0,.int .i64 (zcB L K n)],H) else zks p n H:=fun e he h0 hr=>by
  rw[he,if_pos h0];exact hr
 have hrun:=zgH E0 rfl (.pointer (some ⟨p,0,none⟩)) n.val H;unfold zeg at hrun;simp only[n0,n1,n2,n3,n4,zbh,zb8,zad,s_br,zan,zd7,za3,zeK,zfh,decide_eq_true_eq,zhu]at hrun;by_cases hop1:n.op<1
 ·rw[if_pos hop1]at hrun;exact stay 73 (by unfold zcB;rw[if_pos (.inl hop1)]) (by decide) hrun
 rw[if_neg hop1]at hrun;by_cases hop2:n.op>33
 ·rw[if_pos hop2]at hrun;exact stay 73 (by unfold zcB;rw[if_pos (.inr hop2)]) (by decide) hrun
 rw[if_neg hop2]at hrun;have hop:¬(n.op<1∨n.op>33):=by omega
 by_cases hw1:n.w<0
 ·rw[if_pos hw1]at hrun;exact stay 5 (by unfold zcB;rw[if_neg hop,if_pos (.inl hw1)]) (by decide) hrun
 rw[if_neg hw1]at hrun;by_cases hw2:n.w>64
 ·rw[if_pos hw2]at hrun;exact stay 5 (by unfold zcB;rw[if_neg hop,if_pos (.inr hw2)]) (by decide) hrun
 rw[if_neg hw2]at hrun;have hww:¬(n.w<0∨n.w>64):=by omega
 have hloop:=loop3 h.st n _ rfl;simp only[zbh,zad,s_br,zbQ,zaU,decide_eq_true_eq]at hloop;simp only[zbh,zad,s_br,zbQ,zaU,decide_eq_true_eq,hloop]at hrun;by_cases hpa:zbP L n=true
 ·rw[if_pos hpa]at hrun;exact stay 70 (by unfold zcB;rw[if_neg hop,if_neg hww,if_pos hpa]) (by decide) hrun
 rw[if_neg hpa]at hrun;simp only[zan,za6,zaC]at hrun;have pa:zai n.op≥1→isT L n.a=true:=fun q=>by
  cases e:isT L n.a with
  |true=>rfl
  |false=>exact absurd (by unfold zbP;simp[q,e]) hpa
 have hn:n.Ok:=⟨by omega,by omega,by omega,by omega,hnum.1,hnum.2⟩
 rw[n07,zag (c41 n H),zad]at hrun;by_cases hsp:zd3 (zai n.op) n=true
 ·rw[if_pos hsp]at hrun;exact stay 1 (by unfold zcB;rw[if_neg hop,if_neg hww,if_neg hpa,if_pos hsp]) (by decide) hrun
 rw[if_neg hsp]at hrun;rw[n07,zag (c42 h.st hL n),zbQ,zad]at hrun;cases hso:zbz n.op (wT L (-1) n.a) (wT L (-1) n.b) (wT L (-1) n.c) with
 |false=>
  rw[hso]at hrun;simp only[Bool.not_false,if_true]at hrun;exact stay 71 (by unfold zcB;rw[if_neg hop,if_neg hww,if_neg hpa,if_neg hsp,if_pos hso]) (by decide) hrun
 |true=>
 have hsort:n.op≥15→wT L (-1) n.a>0:=fun q=>by
  have q0:zai n.op≠0:=by unfold zai;(repeat' split)<;>omega
  have:=hso;unfold zbz at this;rw[if_neg q0,if_neg (by omega),if_neg (by omega),if_neg (by omega),if_neg (by omega)]at this;split at this
  ·simp at this;omega
  ·split at this
   ·simpa using this
   ·simp at this;omega
 rw[hso]at hrun;simp only[Bool.not_true,Bool.false_eq_true,if_false]at hrun;rw[n07,zag (c43 h.st hL n hn ha hbd hsort),zbQ,zad]at hrun;cases hwi:zbO n (wT L (-1) n.a) (wT L (-1) n.b) with
 |false=>
  rw[hwi]at hrun;simp only[Bool.not_false,if_true]at hrun;exact stay 5 (by unfold zcB;rw[if_neg hop,if_neg hww,if_neg hpa,if_neg hsp,hso,if_neg (by decide),if_pos hwi]) (by decide) hrun
 |true=>
 rw[hwi]at hrun;simp only[Bool.not_true,Bool.false_eq_true,if_false]at hrun;have hl9:=look9 h.gm n.name;have hnm:n.op=4→zbn K n=true→RR Ar [.pointer (some ⟨p,0,none⟩),n.val] H=some (.tuple #[.int .i64 0,.int .i64 72],H):=by
  intro h4 hbad;refine hrun.trans ?_;simp only[h4,zaZ,decide_true,zad,s_br,if_true,zbA,zaK,Nat.zero_add,h.st.l3,n6,n1,zgZ hl9];unfold zbn at hbad;cases hq:zaX n.name 0 K with
  |none=>
   rw[hq]at hbad;simp only[x01,zag (c44 n.name H),zbQ,zad,s_br];cases hno:zcu n.name with
   |true=>rw[hno]at hbad;cases hbad
   |false=>simp[zan,zeK,zfh]
  |some q=>
   rw[hq]at hbad;simp only[x01,zag (c44 n.name H),zbQ,zad,s_br,zba];cases hno:zcu n.name with
   |true=>
    rw[hno]at hbad;have hne:q.2≠n.w:=by simpa using hbad
    simp[hne,zan,zeK,zfh]
   |false=>simp[zan,zeK,zfh]
 by_cases hbad:n.op=4∧zbn K n=true
 ·exact stay 72 (by unfold zcB;rw[if_neg hop,if_neg hww,if_neg hpa,if_neg hsp,hso,if_neg (by decide),hwi,if_neg (by decide),if_pos hbad]) (by decide) (hnm hbad.1 hbad.2)
 have herr:zcB L K n=0:=by unfold zcB;rw[if_neg hop,if_neg hww,if_neg hpa,if_neg hsp,hso,if_neg (by decide),hwi,if_neg (by decide),if_neg hbad]
 rw[herr,if_neg (by decide)];have hgood:n.op=4→zbn K n=false:=fun h4=>by
  cases e:zbn K n with
  |true=>exact absurd ⟨h4,e⟩ hbad
  |false=>rfl
 refine hrun.trans ?_;unfold zks;by_cases h4:n.op=4
 ·have hb:=hgood h4;unfold zbn at hb;cases hq:zaX n.name 0 K with
  |none=>
   rw[hq]at hb hl9;have hno:zcu n.name=true:=by simpa using hb
   simp only[h4,zaZ,decide_true,zad,s_br,if_true,zbA,zaK,Nat.zero_add,h.st.l3,n0,n6,n1,zgZ hl9,x01,zag (c44 n.name H),zbQ,hno,Bool.not_true,Bool.false_eq_true,if_false,zan,za3]
  |some q=>
   rw[hq]at hb hl9;have hno:zcu n.name=true∧q.2=n.w:=by simpa using hb
   simp only[h4,zaZ,decide_true,zad,s_br,if_true,zbA,zaK,Nat.zero_add,h.st.l3,n0,n6,n1,zgZ hl9,x01,zag (c44 n.name H),zbQ,zba,hno.1,hno.2,Bool.not_true,Bool.false_eq_true,if_false,zan,za3,ne_eq,not_true_eq_false,decide_false]
 ·simp only[n0,n1,n6,zbA,zaK,Nat.zero_add,h4,zaZ,decide_false,zad,s_br,Bool.false_eq_true,if_false,zan,za3]
theorem c22{H:Hp}{p f g:Nat}{lim:Int}{L:List Nd}{K:List (ByteArray×Int)}{sl:Value}(h:StF H p lim L K sl f g)(n:Nd)(hnum:0≤n.num∧n.num<18446744073709551616)
  (hW:∀m∈L,0≤m.w∧m.w≤64) (hb:(L.length+1)*64≤2^47) :
  ∃H' sl',RR Ar [.pointer (some ⟨p,0,none⟩),n.val] H=some (.tuple #[.int .i64 (mkR lim L K n).1,.int .i64 (mkR lim L K n).2.1],H')∧MkOk H p lim sl f g (mkR lim L K n) H' sl':=by
 have hr:=c22r h n hnum hW hb;unfold mkR;by_cases he:zcB L K n≠0
 ·rw[if_pos he]at hr ⊢;exact⟨H,sl,hr,MkOk.stay h rfl⟩
 ·rw[if_neg he]at hr ⊢
  obtain⟨H',sl',h1,h2⟩:=rest_ok h n (fun h4 j u hq=>by
   have hb:zbn K n=false:=Bool.eq_false_iff.2 fun q=>he (by
    unfold zcB
    (repeat' split)<;>first|decide|skip
    rename_i z
    exact absurd ⟨h4,q⟩ z)
   unfold zbn at hb;rw[hq]at hb;simp at hb
   exact hb.2) hb
  exact⟨H',sl',hr.trans h1,h2⟩
theorem rest_q{H:Hp}{p f g:Nat}{lim:Int}{L:List Nd}{K:List (ByteArray×Int)}{sl:Value}(h:StF H p lim L K sl f g)(n:Nd){q:Nat}(hq:zbf n 0 L=some q):zks p n H=some (.tuple #[.int .i64 ((q+1:Nat):Int),.int .i64 0],H):=by have hl36:=look36 h.fm n;rw[hq]at hl36;unfold zks;simp only[zbA,zaK,Nat.zero_add,h.st.l2,n07,zgZ hl36,x01,zad,s_br,if_true]
theorem c22q{H:Hp}{p f g:Nat}{lim:Int}{L:List Nd}{K:List (ByteArray×Int)}{sl:Value}(h:StF H p lim L K sl f g)(n:Nd)(hnum:0≤n.num∧n.num<18446744073709551616)
  (hW:∀m∈L,0≤m.w∧m.w≤64) (hb:(L.length+1)*64≤2^47) (he:zcB L K n=0) {q:Nat} (hq:zbf n 0 L=some q):RR Ar [.pointer (some ⟨p,0,none⟩),n.val] H=some (.tuple #[.int .i64 ((q+1:Nat):Int),.int .i64 0],H):=by
 have hr:=c22r h n hnum hW hb;rw[he,if_neg (by decide)]at hr;exact hr.trans (rest_q h n hq)
def dig(d:Nat):UInt8:=UInt8.ofNat (if d<10 then 48+d else 87+d)
def dgt(b x:Nat):List UInt8:=if h:x<b∨b<2 then [dig x] else dgt b (x/b)++[dig (x%b)]
termination_by x
decreasing_by exact Nat.div_lt_self (by omega) (by omega)
abbrev ba(l:List UInt8):ByteArray:=⟨l.toArray⟩
theorem zcC(l:List UInt8):(ba l).size=l.length:=by simp[ba,ByteArray.size]
theorem zi2(l:List UInt8):(ba l).data.toList=l:=by simp[ba]
theorem zj0{s:ByteArray}{l:List UInt8}(h:s.data.toList=l):s=ba l:=by cases s;subst h;simp[ba]
section
variable {α:Type}{P:Program}
theorem s_cut(s:ByteArray)(k1 k2:IntKind)(i j:Nat)(h:i≤j)(hj:j≤s.size)(k:Value→Option α):zbc (.string s) (some (.int k1 (i:Int))) (some (.int k2 (j:Int))) k=k (.string (s.extract i j)):=by
 have:zfT (.string s) (some (.int k1 (i:Int))) (some (.int k2 (j:Int)))=some (.string (s.extract i j)):=by unfold zfT;dsimp only[zdb];rw[if_pos ⟨by omega,by omega,by omega⟩];simp
 unfold zbc;rw[this]
theorem f_at(s:ByteArray)(kd:IntKind)(i:Nat)(b:UInt8)(h:s.data.toList[i]?=some b)(k:Value→Option α):zcs (.string s) (.int kd (i:Int)) k=k (.int .u8 (b.toNat:Int)):=q_at s i b h k
end
def numT(x:Nat):List UInt8:=if x<1000 then dgt 10 x else [48,120]++dgt 16 x
end Go.AM
namespace Go.AM
open List Go
theorem run_at{P:Program}{O:Orc}{ext:FuncId→Option (List Value→Hp→Option (Value×Hp))}{g:FuncId}{fn:Func}{e:List Value→Option Value}(hf:P.funcs[g]?=some fn)(hn:(fn.name == "runtime.NumGoroutine")=false)(hb:fn.body.isNone=true)(hx:O.xt g=some e){xs:List Value}{v:Value}(hv:e xs=some v)(H:Hp) :
  run P O ext g xs H=some (v,H):=by
 have hb:fn.body=none:=by
  cases q:fn.body with
  |none=>rfl
  |some c=>rw[q]at hb;cases hb
 rw[run_eq];unfold zhp;rw[hf];dsimp only;rw[hn];dsimp only;rw[hb];dsimp only;rw[hx];dsimp only;rw[hv]
abbrev nlB:ByteArray:=⟨#[10]⟩
theorem zoe{α:Type}(H:Hp)(k:Value→Option α):pLen .str (.string nlB) H k=k (.int .i64 1):=rfl
theorem nl_at{α:Type}(k:Value→Option α):zcs (.string nlB) (.int .i64 0) k=k (.int .u8 10):=f_at nlB .i64 0 10 rfl k
theorem znO{α:Type}(T:TypeId)(a b:ByteArray)(k:Value→Option α):pBin PP .eql T (.string a) (.string b) k=k (.bool (a.data.toList==b.data.toList)):=by
 have:zoQ .eql a b=some (.bool (a.data.toList==b.data.toList)):=by unfold zoQ;simp only[Go.Lib.toList_data]
 unfold pBin binV;dsimp only;rw[this]
theorem c_cntS(s:ByteArray)(H:Hp):RR Bi [.string s,.string nlB] H=some (.int .i64 (Go.Lib.countByte s.data.toList 10:Nat),H):=by
 have h:RR AX [.string s,.int .u8 10] H=some (.int .i64 (Go.Lib.countByte s.data.toList 10:Nat),H):=
  run_at (e:=zj4) Go.Proofs.Tryz.func157 (by kernel_rfl) (by kernel_rfl) (by kernel_rfl) rfl H
 refine(zh4 E0 rfl _ _ H).trans ?_;unfold zeT;simp only[zoe,zaZ,zad,s_br,nl_at,zag h,show (1:Int)≠0 by decide,decide_false,decide_true,if_false,if_true,Bool.false_eq_true]
theorem c_ixS(s:ByteArray)(H:Hp):RR A1 [.string s,.string nlB] H=some (.int .i64 (Go.Lib.indexByte s.data.toList 10),H):=by
 have h:RR AY [.string s,.int .u8 10] H=some (.int .i64 (Go.Lib.indexByte s.data.toList 10),H):=
  run_at (e:=zjV) Go.Proofs.Tryz.func184 (by kernel_rfl) (by kernel_rfl) (by kernel_rfl) rfl H
 have h2:RR Bg [.string s,.int .u8 10] H=some (.int .i64 (Go.Lib.indexByte s.data.toList 10),H):=by refine(zcE E0 rfl _ _ H).trans ?_;unfold zbG;rw[zag h]
 have h3:RR BJ [.string s,.string nlB] H=some (.int .i64 (Go.Lib.indexByte s.data.toList 10),H):=by
  refine(zdj E0 rfl _ _ H).trans ?_;unfold zb3;cases e:(nlB.data.toList==s.data.toList) with
  |true=>
   have e1:s.data.toList=[10]:=(eq_of_beq e).symm;simp only[zoe,zaZ,zad,s_br,nl_at,znO,e,zan,za3,zeK,show (1:Int)≠0 by decide,decide_false,decide_true,if_false,if_true,Bool.false_eq_true,qg0,headD_cons];rw[e1];rfl
  |false=>simp only[zoe,zaZ,zad,s_br,nl_at,znO,zan,za3,zeK,e,zag h2,show (1:Int)≠0 by decide,decide_false,decide_true,if_false,if_true,Bool.false_eq_true,qg0,headD_cons]
 refine(zh3 E0 rfl _ _ H).trans ?_;unfold zeS;rw[zag h3]
def cutB(c:UInt8):List UInt8→List (List UInt8)
 |[]=>[[]]
 |b::r=>match b==c with
  |true=>[]::cutB c r
  |false=>match cutB c r with
   |h::t=>(b::h)::t
   |[]=>[[b]]
theorem cutB_hit{c b:UInt8}(h:(b==c)=true)(r:List UInt8):cutB c (b::r)=[]::cutB c r:=by
 conv=>lhs;unfold cutB
 rw[h]
theorem cutB_miss{c b:UInt8}(h:(b==c)=false){r x:List UInt8}{t:List (List UInt8)}(e:cutB c r=x::t):cutB c (b::r)=(b::x)::t:=by
 conv=>lhs;unfold cutB
 rw[h,e]
theorem zgo(c:UInt8):∀l,(cutB c l).length=l.count c+1
 |[]=>rfl
 |b::r=>by
  have ih:=zgo c r;unfold cutB;rw[count_cons];cases h:b==c with
  |true=>dsimp only;rw[length_cons,ih];simp
  |false=>
   dsimp only;split
   ·rename_i h1 t e;rw[e]at ih;simpa using ih
   ·rename_i e;rw[e]at ih;cases ih
theorem zmn(c:UInt8):∀l,l.count c=0→cutB c l=[l]
 |[],_=>rfl
 |b::r,h=>by
  rw[count_cons]at h;have h1:(b==c)=false:=by
   cases q:b==c with
   |false=>rfl
   |true=>rw[q]at h;simp at h
  rw[h1]at h;unfold cutB;rw[h1];dsimp only;rw[zmn c r (by simpa using h)]
theorem zmm(c:UInt8):∀l,l.count c≠0→∃m:Nat,Go.Lib.indexByte l c=m∧m<l.length∧cutB c l=l.take m::cutB c (l.drop (m+1))∧(l.drop (m+1)).count c+1=l.count c
 |[],h=>by simp at h
 |b::r,h=>by
  rw[count_cons]at h;cases q:b==c with
  |true=>
   refine⟨0,?_,by simp,?_,?_⟩
   ·unfold Go.Lib.indexByte;rw[q];rfl
   ·rw[cutB_hit q];rfl
   ·rw[count_cons,q];simp
  |false=>
   rw[q]at h;obtain⟨m,h1,h2,h3,h4⟩:=zmm c r (by simpa using h);refine⟨m+1,?_,by simp;omega,?_,?_⟩
   ·unfold Go.Lib.indexByte;rw[q,h1];have:((m:Int)==-1)=false:=by rw[beq_eq_false_iff_ne];omega
    simp[this]
   ·rw[cutB_miss q h3];rfl
   ·rw[count_cons,q];simpa using h4
def str(l:List UInt8):Value:=.string (ba l)
theorem ba_take(l:List UInt8)(m:Nat):(ba l).extract 0 m=ba (l.take m):=zj0 (by simp[ByteArray.data_extract])
theorem ba_drop(l:List UInt8)(m:Nat):(ba l).extract m l.length=ba (l.drop m):=zj0 (by
 simp only[ByteArray.data_extract,Array.toList_extract,extract_eq_take_drop]
 exact take_of_length_le (by simp))
theorem s_upto{α:Type}(l:List UInt8)(kd:IntKind){m:Nat}(hm:m≤l.length)(k:Value→Option α):zbc (str l) none (some (.int kd (m:Int))) k=k (str (l.take m)):=by
 have:zfT (str l) none (some (.int kd (m:Int)))=some (.string ((ba l).extract 0 m)):=by unfold zfT str;dsimp only[zdb];rw[zcC,if_pos ⟨by omega,by omega,by omega⟩];simp
 unfold zbc;rw[this,ba_take];rfl
theorem s_from{α:Type}(l:List UInt8)(kd:IntKind){m:Nat}(hm:m≤l.length)(k:Value→Option α):zbc (str l) (some (.int kd (m:Int))) none k=k (str (l.drop m)):=by
 have:zfT (str l) (some (.int kd (m:Int))) none=some (.string ((ba l).extract m l.length)):=by unfold zfT str;dsimp only[zdb];rw[zcC,if_pos ⟨by omega,by omega,by omega⟩];simp
 unfold zbc;rw[this,ba_drop];rfl
theorem c_ixL(l:List UInt8)(H:Hp):RR A1 [str l,.string nlB] H=some (.int .i64 (Go.Lib.indexByte l 10),H):=by have:=c_ixS (ba l) H;rw[zi2]at this;exact this
theorem w64{a:Int}(h1:-9223372036854775808≤a)(h2:a≤9223372036854775807):IntKind.i64.wrap a=a:=zco (k:=.i64) h1 h2
theorem zkj(A:List Value)(e x:Value){i n:Nat}(hi:A.length=i)(k:Nat):spl (A++repl (k+1) [e]) (i*1) [x]=A++[x]++repl k [e]:=by subst hi;have h:repl (k+1) [e]=e::repl k [e]:=rfl;unfold spl;rw[h,Nat.mul_one];simp
theorem zjl(v:Value)(n:Nat)(hn:n≤2^41):∀(c i:Nat) (done:List (List UInt8)) (rest:List UInt8) (H:Hp),rest.count 10=c→Vec H 1 v n (done.map str++repl (c+1) [str []])→done.length=i→i+c+1=n→rest.length≤2^40 →
  ∃H' front last,zau (za9 RR (.string nlB) (.int .i64 0) v (.int .i64 ((n:Int)-1))) [str rest,.int .i64 (i:Int)] H=some (.exit 0,[str last,.int .i64 ((n:Int)-1)],H') ∧
   cutB 10 rest=front++[last]∧Vec H' 1 v n ((done++front).map str++repl 1 [str []])∧Frm (Id v) H H'
 |0,i,done,rest,H,hc,hv,hd,hi,hl=>by
  refine⟨H,[],rest,?_,by rw[zmn _ _ hc];rfl,by rw[append_nil];exact hv,Frm.refl _ _⟩;have:za9 RR (.string nlB) (.int .i64 0) v (.int .i64 ((n:Int)-1)) [str rest,.int .i64 (i:Int)] H=some (.exit 0,[str rest,.int .i64 (i:Int)],H):=by
   unfold za9;have h1:¬((i:Int)<(n:Int)-1):=by omega
   simp only[qg1,qg0,zbh,zad,s_br,h1,decide_false,Bool.false_eq_true,if_false]
  rw[zah,this];have e:((n:Int)-1)=(i:Int):=by omega
  rw[e];rfl
 |c+1,i,done,rest,H,hc,hv,hd,hi,hl=>by
  obtain⟨m,h1,h2,h3,h4⟩:=zmm 10 rest (by omega);obtain⟨y,hy,_,hix⟩:=hv.ix (i:=i) (by omega);have hsz:=hv.size;obtain⟨H1,hst,hv1,hf1,hnx⟩:=hv.set hy (o:=i*1) (m:=1) (x:=str (rest.take m)) rfl (by rw[hsz];omega) rfl;have hspl:=zkj (done.map str) (str []) (str (rest.take m)) (i:=i) (n:=n) (by simpa using hd) (c+1);have hcl:zab (str (rest.take m))=[str (rest.take m)]:=rfl;rw[hcl,hspl]at hv1;have hv2:Vec H1 1 v n ((done++[rest.take m]).map str++repl (c+1) [str []]):=by simpa using hv1
  obtain⟨H',front,last,g1,g2,g3,g4⟩:=zjl v n hn c (i+1) (done++[rest.take m]) (rest.drop (m+1)) H1 (by omega) hv2 (by simp[hd]) (by omega) (by simp;omega);refine⟨H',rest.take m::front,last,?_,by rw[h3,g2];rfl,by simpa using g3,hf1.trans g4 (fun j hj=>.inl hj)⟩;have:za9 RR (.string nlB) (.int .i64 0) v (.int .i64 ((n:Int)-1)) [str rest,.int .i64 (i:Int)] H=some (.next,[str (rest.drop (m+1)),.int .i64 ((i+1:Nat):Int)],H1):=by
   unfold za9;have q1:((i:Int)<(n:Int)-1):=by omega
   have q2:¬((m:Int)<0):=by omega
   simp only[qg1,qg0,zbh,zad,s_br,q1,decide_true,if_true,zag (c_ixL rest H),h1,q2,decide_false,Bool.false_eq_true,if_false,zaU];rw[Int.add_zero,w64 (by omega) (by omega),s_upto rest _ (by omega),hix,hst,zoe,zaU];have e1:(m:Int)+1=((m+1:Nat):Int):=by omega
   have e2:(i:Int)+1=((i+1:Nat):Int):=by omega
   rw[e1,e2,w64 (by omega) (by omega),w64 (by omega) (by omega),s_from rest _ (by omega)]
  rw[zah,this];exact g1
theorem c_split(l:List UInt8)(hl:l.length≤2^40)(H:Hp):∃v H',RR Bk [str l,.string nlB] H=some (v,H')∧Vec H' 1 v (cutB 10 l).length ((cutB 10 l).map str)∧Frm (fun _=>False) H H'∧∀j,Id v j→H.next≤j:=by
 have hlen:=zgo 10 l;have hcnt:l.count 10≤l.length:=count_le_length;generalize hnn:(cutB 10 l).length=n at *;obtain⟨v,hmk,hv,hid⟩:=Vec.make H (sz:=1) (bytes:=16) (zs:=[str []]) rfl (n:=n) (by omega);obtain⟨H1,front,last,g1,g2,g3,g4⟩:=zjl v n (by omega) (l.count 10) 0 [] l (H.new (.cells (repl n [str []]) true)) rfl (by show Vec _ 1 v n (repl (l.count 10+1) [str []]);rw[←hlen];exact hv) rfl (by omega) hl;rw[show ((0:Nat):Int)=0 from rfl]at g1;have hfl:front.length+1=n:=by rw[←hnn,g2];simp
 obtain⟨y,hy,_,hix⟩:=g3.ix (i:=n-1) (by omega);have hsz:=g3.size;obtain⟨H2,hst,hv2,hf2,hnx⟩:=g3.set hy (o:=(n-1)*1) (m:=1) (x:=str last) rfl (by rw[hsz];omega) rfl;have hspl:=zkj (([]++front).map str) (str []) (str last) (i:=n-1) (n:=n) (by simp;omega) 0;have hcl:zab (str last)=[str last]:=rfl;rw[hcl,hspl]at hv2;have hv3:Vec H2 1 v n ((cutB 10 l).map str):=by rw[g2];simpa[repl] using hv2
 obtain⟨v',hcut,hv4,hid4⟩:=hv3.cut (by rw[all_map];exact all_eq_true.2 fun x _=>rfl) (m:=n) (Nat.le_refl _);have hv5:Vec H2 1 v' n ((cutB 10 l).map str):=by have e:((cutB 10 l).map str).take (n*1)=(cutB 10 l).map str:=take_of_length_le (by rw[length_map,hnn];omega);rw[e]at hv4;exact hv4
 have hgen:RR Bl [str l,.string nlB,.int .i64 0,.int .i64 (-1)] H=some (v',H2):=by
  refine(zf0 E0 rfl _ _ _ _ H).trans ?_;rw[zgj];have hc:RR Bi [str l,.string nlB] H=some (.int .i64 (l.count 10:Nat),H):=by have:=c_cntS (ba l) H;rw[zi2]at this;exact this
  have q1:¬((-1:Int)=0):=by decide
  have q2:(nlB.data.toList==(⟨#[]⟩:ByteArray).data.toList)=false:=by decide
  have q3:((-1:Int)<0):=by decide
  have e1:((l.count 10:Nat):Int)+1=(n:Int):=by omega
  have e2:∀{α:Type} (k:Value→Option α),pLen .str (str l) H k=k (.int .i64 (l.length:Int)):=fun k=>by show k (.int .i64 ((ba l).size:Int))=_;rw[zcC]
  have e3:∀(a b:Int) (k:Value→Option (Value×Hp)),pMM false [.int .i64 a,.int .i64 b] k=k (.int .i64 (if b<a then b else a)):=fun a b k=>rfl;have hmk':∀(α:Type) (k:Value→Hp→Option α),zaY 1 16 [Value.string ⟨#[]⟩] (.int .i64 (n:Int)) (.int .i64 (n:Int)) H k=k v (H.new (.cells (repl n [str []]) true)):=hmk;have q4:¬(((l.length:Int)+1)<(n:Int)):=by omega
  simp only[zaZ,zad,s_br,q1,znO,q2,zbh,q3,decide_true,decide_false,if_true,if_false,Bool.false_eq_true,zag hc,zaU,e1,zan,za3];rw[w64 (by omega) (by omega)];simp only[qg0];rw[e2,zaU,w64 (by omega) (by omega),e3,if_neg q4,hmk',zd5,w64 (by omega) (by omega),g1,zan,za6,zaC];simp only[qg1,qg0];have e5:(n:Int)-1=((n-1:Nat):Int):=by omega
  rw[e5,hix,hst,zaU];have e6:((n-1:Nat):Int)+1=(n:Int):=by omega
  rw[e6,w64 (by omega) (by omega),hcut]
 refine⟨v',H2,?_,hv5,?_,fun j hj=>?_⟩
 ·refine(zh2 E0 rfl _ _ H).trans ?_;unfold zeR;rw[zag hgen]
 ·refine(zcz H _ (fun _=>False)).trans (g4.trans hf2 fun j hj=>.inl hj) fun j hj=>.inr ?_;rw[hid j hj];exact Nat.le_refl _
 ·rw[hid j (hid4 j hj)];exact Nat.le_refl _
end Go.AM
