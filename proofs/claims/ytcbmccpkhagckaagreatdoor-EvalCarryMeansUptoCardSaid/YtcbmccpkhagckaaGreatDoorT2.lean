/- Part of the proof of EvalCarryMeansUptoCardSaid: see the last file.  -/
import Derived.KernelRfl
import Derived.Test.YtcbmccpkhagckaaGreatDoorProg
import Derived.Shelf.Strings.Builder1
import Derived.Shelf.Small.Wraps
import Derived.Shelf.Strings.BuilderF
import Derived.Shelf.Strings.BuilderK
import Derived.Shelf.Utf8.RuneCount
import Derived.Shelf.Strconv.Itoa0
import Derived.Shelf.Strconv.Itoa1
import Derived.Shelf.LaysM
import Derived.Shelf.Strconv.Itoa2
import Derived.Shelf.Strconv.Itoa3
import Derived.Shelf.Strconv.Clone
import Derived.Shelf.Strconv.SyntaxError
import Derived.Shelf.LaysC
import Derived.Shelf.Strconv.ToError
import Derived.Shelf.Strconv.Lower
import Derived.Shelf.Strconv.ParseUint10
import Derived.Shelf.Strconv.ParseUint10Empty
import Derived.Shelf.Strconv.ParseUint10Any
import Derived.Shelf.Strconv.RangeError
import Derived.Shelf.Strconv.ToErrorRange
import Derived.Shelf.Strconv.ParseUintEmpty
import Derived.Shelf.Strconv.ParseUint10b64
import Derived.Shelf.Strconv.ParseUint10b32
import Derived.Shelf.Strconv.ParseUint10b16
import Derived.Shelf.Strconv.ParseUint10b8
import Derived.Shelf.Strconv.ParseUint10At
import Derived.Shelf.Strings.Search1
import Derived.Shelf.Strings.Search2
import Derived.Shelf.Strings.Search3
import Derived.Shelf.Strings.Count
import Derived.Shelf.Strings.Shaped
import Derived.Shelf.Strings.Prefix
import Derived.Shelf.Strings.Split
import Derived.Shelf.Strings.Fields
import Derived.Shelf.Strings.SplitShaped
import Derived.Shelf.Unicode.Latin
import Derived.Shelf.Unicode.Decode
import Derived.Shelf.Strings.RuneCount
import Derived.Shelf.Strings.Explode
import Derived.Shelf.Unicode.DecodeSlow
import Derived.Shelf.Unicode.DecodeAny
import Derived.Shelf.Unicode.Is16White
import Derived.Shelf.Unicode.IsSpaceAny
import Derived.Shelf.Unicode.Is16WhiteD
import Derived.Shelf.Unicode.IsSpaceAnyD
import Derived.Shelf.Unicode.Is16Any
import Derived.Shelf.Unicode.Is32Any
import Derived.Shelf.Unicode.ExclAny
import Derived.Shelf.Strings.BuilderCap
import Derived.Laws.Bits64
import Derived.Laws.RangeString
import Derived.Laws.RangeAny
import Derived.Test.YtcbmccpkhagckaaGreatDoorT0
import Derived.Test.YtcbmccpkhagckaaGreatDoorT1
set_option linter.unusedSimpArgs false
set_option linter.unusedVariables false
set_option linter.unusedSectionVars false
set_option maxRecDepth 100000
namespace Go.AM
open Go Go.AM
noncomputable abbrev PP:Program:=Go.Proofs.Tryz.prog
abbrev ET:=FuncId→Option (List Value→Hp→Option (Value×Hp))
abbrev Co:Nat:=0
abbrev AI:Nat:=1
abbrev Ch:Nat:=2
abbrev AA:Nat:=3
abbrev Ca:Nat:=4
abbrev Ci:Nat:=5
abbrev Cj:Nat:=6
abbrev AB:Nat:=7
abbrev AC:Nat:=8
abbrev Ck:Nat:=9
abbrev AJ:Nat:=10
abbrev BE:FuncId:=84
abbrev BG:FuncId:=85
abbrev BH:FuncId:=82
abbrev BJ:FuncId:=87
abbrev Bb:FuncId:=164
abbrev Bc:FuncId:=55
abbrev AP:FuncId:=102
abbrev AV:FuncId:=117
abbrev BK:FuncId:=143
abbrev Aq:FuncId:=114
abbrev AQ:FuncId:=115
abbrev BL:FuncId:=86
abbrev Bd:FuncId:=61
abbrev BM:FuncId:=167
abbrev BN:FuncId:=183
abbrev Af:FuncId:=80
abbrev BO:FuncId:=83
abbrev Be:FuncId:=118
abbrev Bf:FuncId:=116
abbrev Cb:FuncId:=10
abbrev Bg:FuncId:=21
abbrev BP:FuncId:=12
abbrev Bh:FuncId:=19
abbrev Am:FuncId:=15
abbrev AR:FuncId:=16
abbrev BQ:FuncId:=96
abbrev BR:FuncId:=33
abbrev AS:FuncId:=56
abbrev AW:FuncId:=24
abbrev Bi:FuncId:=18
abbrev AD:FuncId:=13
abbrev Bj:FuncId:=20
abbrev BS:FuncId:=40
abbrev BT:FuncId:=54
abbrev Bk:FuncId:=81
abbrev BU:FuncId:=47
abbrev Bl:FuncId:=52
abbrev Bm:FuncId:=39
abbrev AX:FuncId:=157
abbrev Cp:FuncId:=173
abbrev AY:FuncId:=184
abbrev Cq:FuncId:=174
abbrev Cl:FuncId:=172
abbrev Cr:FuncId:=126
abbrev Cs:FuncId:=127
abbrev BV:FuncId:=131
abbrev Bn:FuncId:=133
abbrev Cc:FuncId:=98
abbrev AZ:FuncId:=160
abbrev BW:FuncId:=165
abbrev A0:FuncId:=152
abbrev Bo:FuncId:=153
abbrev BX:FuncId:=166
abbrev BY:FuncId:=163
abbrev Ar:FuncId:=176
abbrev BZ:FuncId:=151
abbrev B0:FuncId:=150
abbrev Cm:FuncId:=177
abbrev Bp:FuncId:=159
abbrev B1:FuncId:=175
abbrev B2:FuncId:=158
abbrev Bq:FuncId:=171
abbrev A1:FuncId:=100
abbrev Br:FuncId:=59
abbrev Bs:FuncId:=138
abbrev A2:FuncId:=161
abbrev Bu:FuncId:=64
abbrev Ay:FuncId:=63
abbrev AE:FuncId:=58
abbrev Bv:FuncId:=97
abbrev Bw:FuncId:=135
abbrev B3:FuncId:=137
abbrev By:FuncId:=99
abbrev AK:FuncId:=67
abbrev A3:FuncId:=136
abbrev Bz:FuncId:=65
abbrev Ct:FuncId:=134
abbrev BA:FuncId:=101
abbrev AT:FuncId:=35
abbrev BB:FuncId:=66
abbrev AF:FuncId:=68
abbrev AU:FuncId:=26
abbrev A4:FuncId:=34
abbrev At:FuncId:=57
abbrev Au:FuncId:=48
abbrev Av:FuncId:=31
abbrev Aw:FuncId:=38
abbrev AL:FuncId:=50
abbrev B4:FuncId:=94
abbrev Aj:FuncId:=49
abbrev B5:FuncId:=95
abbrev A5:FuncId:=60
abbrev BC:FuncId:=103
abbrev Ax:FuncId:=62
abbrev Ap:FuncId:=69
abbrev AN:FuncId:=72
abbrev An:FuncId:=71
abbrev BD:FuncId:=70
abbrev B6:FuncId:=93
abbrev Cu:FuncId:=155
abbrev Cv:TypeId:=235
abbrev Cw:TypeId:=196
abbrev A6:TypeId:=106
abbrev A7:TypeId:=167
abbrev Cx:TypeId:=266
abbrev Ak:TypeId:=30
abbrev Ao:TypeId:=71
abbrev A8:TypeId:=48
abbrev AG:TypeId:=114
abbrev B7:TypeId:=269
abbrev AO:TypeId:=165
abbrev Aa:TypeId:=3
abbrev Ag:TypeId:=21
abbrev B8:TypeId:=2
abbrev Cd:TypeId:=20
abbrev Cy:TypeId:=169
abbrev AH:TypeId:=267
abbrev B9:TypeId:=251
abbrev Al:TypeId:=24
abbrev Cz:TypeId:=210
abbrev Cn:TypeId:=22
abbrev A9:TypeId:=29
abbrev Ai:TypeId:=249
abbrev Ac:TypeId:=9
abbrev As:TypeId:=121
abbrev Ba:TypeId:=175
abbrev Az:TypeId:=109
abbrev Ae:TypeId:=131
abbrev Ce:TypeId:=148
abbrev Cf:TypeId:=134
abbrev Cg:TypeId:=63
abbrev Ah:TypeId:=207
abbrev Ab:TypeId:=38
abbrev Ad:TypeId:=5
abbrev CA:TypeId:=243
abbrev CB:TypeId:=240
def orc:Orc:={ mkOrc [(8,[20]),(13,[15,17]),(14,[12]),(20,[11]),(21,[7]),(23,[10]),(24,[14]),(25,[13,14]),(28,[10]),(29,[17,19]),(31,[4]),(32,[16]),(34,[14]),(36,[18]),(37,[6]),(38,[14]),(39,[6,7,10]),(40,[6]),(43,[12,14]),(45,[11,12,13,14]),(48,[3]),(53,[2]),(55,[15]),(56,[1]),(66,[4]),(67,[11,14]),(76,[4,6]),(77,[3]),(78,[3]),(92,[6]),(93,[1]),(94,[3]),(95,[3]),(96,[5]),(102,[18]),(105,[3]),(110,[2]),(111,[3]),(112,[3]),(155,[4]),(169,[10]),(170,[9])]
 [(3,[(10,some ([],[])),(4,some ([],[]))]),(4,[(13,some ([],[]))]),(5,[(9,some ([],[])),(4,some ([],[]))]),(6,[(16,some ([8],[])),(13,some ([],[])),(5,some ([],[]))]),(8,[(37,some ([],[])),(32,some ([],[])),(20,some ([],[]))]),(10,[(10,some ([],[]))]),(11,[(5,some ([],[]))]),(12,[(4,some ([],[]))]),(21,[(9,some ([],[7]))]),(28,[(5,some ([22],[])),(4,some ([15],[])),(10,some ([],[10]))]),(34,[(21,some ([],[]))]),(35,[(17,some ([],[])),(7,some ([8],[]))]),(36,[(18,some ([71],[])),(14,some ([14],[])),(11,some ([],[]))]),(48,[(26,some ([],[])),(21,some ([],[])),(5,some ([],[])),(3,some ([],[]))]),(52,[(15,some ([],[]))]),(55,[(7,some ([5],[])),(3,some ([],[]))]),(62,[(6,some ([4],[]))]),(67,[(14,some ([5],[]))]),(72,[(22,some ([69],[])),(31,some ([],[])),(12,some ([],[]))]),(76,[(21,some ([],[4])),(11,some ([],[4])),(4,some ([],[4]))]),(77,[(4,some ([13],[]))]),(78,[(23,some ([],[])),(18,some ([],[])),(7,some ([26],[])),(5,some ([17],[]))]),(82,[(3,some ([],[]))]),(84,[(5,some ([],[])),(3,some ([],[]))]),(86,[(3,some ([],[]))]),(87,[(5,some ([],[])),(3,some ([],[]))]),(92,[(26,some ([111],[])),(24,some ([94],[])),(17,some ([66],[]))]),(94,[(8,some ([27],[]))]),(95,[(12,some ([60],[])),(4,some ([13],[]))]),(96,[(9,some ([],[])),(5,some ([],[]))]),(101,[(7,some ([3],[]))]),(102,[(5,some ([4],[]))]),(107,[(6,some ([4,5],[]))]),(109,[(2,some ([3],[]))]),(110,[(3,some ([],[]))]),(111,[(12,some ([67],[]))]),(112,[(3,some ([8],[]))]),(113,[(3,some ([],[]))]),(120,[(3,some ([],[]))]),(122,[(5,some ([],[])),(3,some ([],[]))]),(124,[(3,some ([],[]))]),(125,[(5,some ([],[])),(3,some ([],[]))]),(131,[(8,some ([6],[])),(4,some ([],[]))]),(134,[(4,some ([1],[]))]),(139,[(3,some ([6],[])),(8,some ([5],[]))]),(146,[(19,some ([11],[]))]),(152,[(20,some ([4,12],[]))]),(153,[(7,some ([1],[])),(3,some ([],[]))]),(154,[(5,some ([],[]))]),(158,[(26,some ([107],[])),(23,some ([],[])),(21,some ([8],[])),(3,some ([16],[])),(10,some ([],[]))]),(160,[(41,some ([106],[])),(46,some ([12,16],[])),(32,some ([10],[])),(25,some ([2],[])),(16,some ([52],[])),(13,some ([40],[])),(7,some ([25],[])),(21,some ([0,1],[]))]),(164,[(4,some ([0,2],[]))]),(168,[(2,some ([17],[]))]),(170,[(21,some ([],[])),(16,some ([],[]))]),(174,[(10,some ([],[]))]),(177,[(14,some ([3],[])),(10,some ([3,4,5],[])),(5,some ([0],[]))])]
 [(3,[(11,[17],[])]),(4,[(24,[17,19],[]),(21,[17,18],[]),(14,[14],[])]),(5,[(10,[14],[])]),(6,[(8,[5,6,7],[])]),(7,[(19,[17],[]),(13,[16],[])]),(8,[(41,[30],[]),(38,[29],[]),(12,[12,13,14,15,16],[])]),(9,[(20,[17],[]),(11,[12,13],[])]),(13,[(26,[19,113],[]),(12,[49],[])]),(14,[(22,[16,17],[]),(10,[11],[])]),(16,[(4,[5],[])]),(17,[(4,[5],[])]),(20,[(8,[8,26],[])]),(21,[(3,[5,6],[])]),(22,[(6,[5,6],[]),(3,[3],[])]),(23,[(8,[8,9],[])]),(24,[(14,[57],[]),(9,[38],[])]),(25,[(16,[15,16,17],[]),(9,[12],[])]),(29,[(21,[72],[]),(16,[58],[])]),(30,[(4,[5],[])]),(32,[(24,[17,18,69],[]),(17,[56],[]),(10,[41],[])]),(34,[(37,[128],[]),(22,[86],[]),(9,[32],[])]),(35,[(19,[],[]),(11,[6,10,42],[])]),(36,[(8,[10,11,12,13],[])]),(37,[(4,[5],[])]),(38,[(16,[8,10],[]),(11,[8,10,36],[]),(2,[18],[])]),(39,[(11,[41],[]),(3,[16],[])]),(41,[(2,[5],[])]),(42,[(9,[5],[]),(3,[3,4],[])]),(43,[(18,[13,15],[]),(12,[8,10],[]),(9,[8,9],[]),(2,[6],[])]),(44,[(2,[5],[])]),(45,[(8,[15],[13,14])]),(48,[(6,[35],[])]),(51,[(3,[11],[])]),(52,[(32,[26,130],[]),(17,[21,79],[]),(6,[45],[])]),(55,[(4,[],[15])]),(67,[(16,[49],[]),(4,[5,6],[14])]),(72,[(13,[44],[])]),(74,[(4,[3,4,5],[])]),(75,[(3,[6,7],[])]),(76,[(14,[9,10],[4,6]),(5,[7],[6])]),(89,[(7,[4],[]),(2,[3],[])]),(99,[(27,[12],[]),(21,[10,11,12],[]),(18,[12],[]),(5,[3,4,5,6],[])]),(101,[(11,[0,10],[])]),(102,[(6,[],[18])]),(103,[(2,[2,7],[])]),(107,[(9,[5,6],[])]),(113,[(4,[3],[])]),(134,[(6,[0,7],[])]),(135,[(6,[0,5],[])]),(140,[(2,[3],[])]),(146,[(3,[9,10],[])]),(152,[(1,[1,4],[])]),(153,[(11,[1,13],[]),(18,[1,13],[])]),(155,[(2,[2],[4])]),(158,[(15,[8,10],[])]),(160,[(36,[12,13,101],[])]),(168,[(14,[7,8],[]),(3,[20],[])]),(169,[(14,[7,8],[]),(3,[16],[])]),(174,[(11,[8,10],[]),(5,[8,9],[])]),(177,[(10,[3,4],[])]),(185,[(8,[6,7,8],[]),(3,[4,5],[])])] with xt:=look none [(184,some zkL),(157,some zkU)],gt:=fun t=>List.elem t [5,121],pan:=fun f=>List.elem f [35,69,70,71,72,103],dfr:=fun f=>List.elem f [35] }
noncomputable def zb5(R:zag)(t u:Value)(v:Hp):Option (Value×Hp):=zad R BP [] v fun w f=>pUn .not w fun x=>zaa x fun y=>br y (some ((.bool false),f)) (zad R Bh [t] f fun c g=>zaf c 0 fun a=>zaf c 1 fun b=>zaf c 2 fun z=>pUn .not z fun A=>zaa A fun B=>br B (some ((.bool true),g)) (zad R AU [(.int .i64 0)] g fun h C=>zaf h 0 fun d=>zaf h 1 fun D=>zad R BR [a,b,d] C fun i E=>zaf i 0 fun j=>zaf i 1 fun F=>zau (zad R Am [D] E fun G k=>pBin PP .neq Aa G (.int .i64 0) fun H=>zaa H fun I=>br I (some (.ret,[(.bool false)],k)) (zad R Am [F] k fun J l=>pBin PP .neq Aa J (.int .i64 0) fun K=>zaa K fun L=>br L (some (.ret,[(.bool false)],l)) (some (.next,[],l)))) fun M N m=>zaC M (zad R A4 [a,b] m fun n O=>zaf n 0 fun P=>zaf n 1 fun Q=>zad R A4 [d,j] O fun o S=>zaf o 0 fun T=>zaf o 1 fun U=>zad R Bj [a,b] S fun p V=>zaf p 0 fun W=>zaf p 1 fun X=>zad R Bg [W,u] V fun q Y=>zad R AD [a,b,q] Y fun r Z=>zaf r 0 fun aa=>zaf r 1 fun ab=>zad R AD [d,j,q] Z fun s ac=>zaf s 0 fun ad=>zaf s 1 fun ae=>zad R Am [Q] ac fun af ag=>zad R Am [U] ag fun ah ai=>pBin PP .add Aa af ah fun aj=>zad R Am [X] ai fun ak al=>pBin PP .add Aa aj ak fun am=>zad R Am [ab] al fun ao ap=>pBin PP .add Aa am ao fun aq=>zad R Am [ae] ap fun ar e=>pBin PP .add Aa aq ar fun au=>pBin PP .eql Aa au (.int .i64 0) fun av=>zaa av fun aw=>br aw (pBin PP .eql Ac P T fun ax=>zaa ax fun ay=>br ay (zad R AR [aa,ad] e fun az ba=>some (az,ba)) (some ((.bool false),e))) (some ((.bool false),e))) (fun bb=>none) (some ((N.headD undef),m))))
noncomputable def zd3(R:zag)(m:Hp):Option (Value×Hp):=zeH R AT [(.string ⟨#[49,32,118,97,114,32,120,32,56,10,50,32,118,97,114,32,121,32,56,10,51,32,97,100,100,32,49,32,50,10,52,32,101,113,32,51,32,49,10,114,111,111,116,115,32,51,32,52,10]⟩),(.int .i64 0)] m fun c n=>zaf c 0 fun d=>zaf c 1 fun e=>zaf c 2 fun am=>zaf c 3 fun o=>zau (zad R Am [o] n fun p a=>pBin PP .neq Aa p (.int .i64 0) fun q=>zaa q fun r=>br r (some (.ret,[(.bool false)],a)) (pBin PP .eql Al d (.pointer none) fun s=>zaa s fun t=>br t (some (.ret,[(.bool false)],a)) (pLen .sl e a fun u=>pBin PP .neq Aa u (.int .i64 2) fun v=>zaa v fun w=>br w (some (.ret,[(.bool false)],a)) (some (.next,[],a))))) fun x y g=>zaC x (zaB PP A8 [(0,(.string ⟨#[120]⟩)),(1,(.int .i64 8)),(2,(.int .u64 200))] fun z=>zaB PP A8 [(0,(.string ⟨#[121]⟩)),(1,(.int .i64 8)),(2,(.int .u64 100))] fun A=>zam 3 [.string ⟨#[]⟩,.int .i64 0,.int .u64 0] 2 [(0,z),(1,A)] g fun B C=>zad R AD [d,e,B] C fun h i=>zaf h 0 fun D=>zaf h 1 fun E=>pIdx 1 e (.int .i64 1) fun F=>zal 1 false i F fun G=>zad R AW [d,G] i fun f j=>zaf f 0 fun H=>zaf f 1 fun I=>zaf f 2 fun J=>zaf f 3 fun K=>pIdx 1 e (.int .i64 0) fun L=>zal 1 false j L fun M=>zaB PP A8 [(0,(.string ⟨#[120]⟩)),(1,(.int .i64 4)),(2,(.int .u64 1))] fun N=>zam 3 [.string ⟨#[]⟩,.int .i64 0,.int .u64 0] 1 [(0,N)] j fun O P=>zad R Bi [d,M,O] P fun k Q=>zaf k 0 fun ao=>zaf k 1 fun S=>zad R Am [E] Q fun T U=>zad R Am [K] U fun V l=>pBin PP .add Aa T V fun W=>pBin PP .eql Aa W (.int .i64 0) fun X=>zaa X fun Y=>br Y (zam 1 [.int .u64 0] 2 [(0,(.int .u64 44)),(1,(.int .u64 0))] l fun Z aa=>zad R AR [D,Z] aa fun ab b=>zaa ab fun ac=>br ac (pBin PP .eql Aa H (.int .i64 4) fun ad=>zaa ad fun ae=>br ae (pBin PP .eql Ab I (.int .u64 5) fun af=>zaa af fun ag=>br ag (pBin PP .eql Aa J (.int .i64 3) fun ah=>zaa ah fun ai=>br ai (zad R Am [S] b fun aj ak=>pBin PP .eql Aa aj (.int .i64 71) fun al=>some (al,ak)) (some ((.bool false),b))) (some ((.bool false),b))) (some ((.bool false),b))) (some ((.bool false),b))) (some ((.bool false),l))) (fun ap=>none) (some ((y.headD undef),g))
noncomputable def zgQ(R:zag)(a b c:Value)(d:Hp):Option (Value×Hp):=zeP PP orc R AD Go.Proofs.Tryz.f13 [a,b,c] d
noncomputable def zhr(R:zag)(a:Value)(b:Hp):Option (Value×Hp):=some (a,b)
noncomputable def zcD(R:zag)(a b:Value)(c:Hp):Option (Value×Hp):=zeP PP orc R AR Go.Proofs.Tryz.f16 [a,b] c
noncomputable def zhL(R:zag)(d e f:Value)(g:Hp):Option (Value×Hp):=zam 1 [.int .i64 0] 1 [(0,e)] g fun h i=>zad R AD [d,h,f] i fun b a=>zaf b 0 fun j=>zaf b 1 fun c=>pBin PP .neq Ak c (.int .i64 0) fun k=>zaa k fun l=>br l (some ((.tuple #[(.int .u64 0),c]),a)) (pIdx 1 j (.int .i64 0) fun m=>zal 1 false a m fun n=>some ((.tuple #[n,(.int .i64 0)]),a))
noncomputable def zd2(R:zag)(e:Value)(f:Hp):Option (Value×Hp):=zeH R AT [e,(.int .i64 0)] f fun a g=>zaf a 0 fun b=>zaf a 1 fun c=>zaf a 2 fun m=>zaf a 3 fun h=>zad R Am [h] g fun i d=>pBin PP .eql Aa i (.int .i64 0) fun j=>zaa j fun k=>br k (pBin PP .neq Al b (.pointer none) fun l=>some ((.tuple #[b,c,l]),d)) (some ((.tuple #[b,c,(.bool false)]),d))
noncomputable def zjc(R:zag)(a b:Value)(c:Hp):Option (Value×Hp):=zeP PP orc R Bj Go.Proofs.Tryz.f20 [a,b] c
noncomputable def zdz(R:zag)(a b:Value)(c:Hp):Option (Value×Hp):=zeP PP orc R Bg Go.Proofs.Tryz.f21 [a,b] c
noncomputable def zjd(R:zag)(a b:Value)(c:Hp):Option (Value×Hp):=zeP PP orc R AW Go.Proofs.Tryz.f24 [a,b] c
noncomputable def zkA(R:zag)(a:Value)(b:Hp):Option (Value×Hp):=pBin PP .lss Aa a (.int .i64 0) fun c=>zaa c fun d=>br d (some ((.tuple #[(.pointer none),(.int .i64 1)]),b)) (zbY b fun e f=>zbY f fun g h=>zaB PP Az [(0,a),(2,e),(3,g)] fun i=>zcI (zab i) h fun j k=>some ((.tuple #[j,(.int .i64 0)]),k))
noncomputable def zeJ(R:zag)(b c:Value)(d:Hp):Option (Value×Hp):=zad R AL [b,c] d fun e a=>pUn .not e fun f=>zaa f fun g=>br g (zaB PP Ao [] fun h=>zaV 7 [.int .i64 0,.int .i64 0,.int .i64 0,.int .i64 0,.int .i64 0,.int .u64 0,.string ⟨#[]⟩] 0 h fun i=>zai 7 true i 0 fun j=>some ((.tuple #[j,(.int .i64 70)]),a)) (pNil b (zas 1 b fun k=>zal 1 false a k fun l=>pBin PP .sub Aa c (.int .i64 1) fun m=>pIdx 7 l m fun n=>zal 7 true a n fun o=>zaV 7 [.int .i64 0,.int .i64 0,.int .i64 0,.int .i64 0,.int .i64 0,.int .u64 0,.string ⟨#[]⟩] 0 o fun p=>zai 7 true p 0 fun q=>some ((.tuple #[q,(.int .i64 0)]),a)))
noncomputable def zhM(R:zag)(b e c:Value)(a:Hp):Option (Value×Hp):=pBin PP .eql Al b (.pointer none) fun f=>zaa f fun g=>br g (some ((.tuple #[(.slice none 0 0),(.int .i64 2)]),a)) (pBin PP .eql Al c (.pointer none) fun h=>zaa h fun i=>br i (some ((.tuple #[(.slice none 0 0),(.int .i64 2)]),a)) (zad R Bl [b,c,e,(.bool true),(.func (.func AS) #[] #[])] a fun d j=>zaf d 0 fun k=>zaf d 1 fun l=>zad R BT [l] j fun m n=>some ((.tuple #[k,m]),n)))
noncomputable def zeL(R:zag)(a b:Value)(c:Hp):Option (Value×Hp):=zeP PP orc R A4 Go.Proofs.Tryz.f34 [a,b] c
noncomputable def zi8(R:zag)(a b:Value)(c:Hp):Option (Value×Hp):=zeP PP orc R AT Go.Proofs.Tryz.f35 [a,b] c
noncomputable def zej(R:zag)(a b:Value)(c:Hp):Option (Value×Hp):=zeP PP orc R Aw Go.Proofs.Tryz.f38 [a,b] c
noncomputable def zi9(R:zag)(a:Value)(b:Hp):Option (Value×Hp):=zeP PP orc R Bm Go.Proofs.Tryz.f39 [a] b
noncomputable def zjb(R:zag)(d c e m f n:Value)(b:Hp):Option (Value×Hp):=zai 1 false (zab d) 0 fun a=>pBin PP .eql Aa a (.int .i64 1) fun o=>zaa o fun p=>br p (some ((.int .u64 1),b)) (pBin PP .eql Aa a (.int .i64 2) fun q=>zaa q fun r=>br r (some ((.int .u64 0),b)) (pBin PP .eql Aa a (.int .i64 3) fun s=>zaa s fun t=>br t (zai 1 false (zab d) 5 fun u=>some (u,b)) (pBin PP .eql Aa a (.int .i64 5) fun v=>zaa v fun w=>br w (pBin PP .sub Ab (.int .u64 1) c fun x=>some (x,b)) (pBin PP .eql Aa a (.int .i64 6) fun y=>zaa y fun z=>br z (pBin PP .and Ab c e fun A=>some (A,b)) (pBin PP .eql Aa a (.int .i64 7) fun B=>zaa B fun C=>br C (pBin PP .or Ab c e fun D=>some (D,b)) (pBin PP .eql Aa a (.int .i64 8) fun E=>zaa E fun F=>br F (pBin PP .xor Ab c e fun G=>some (G,b)) (pBin PP .eql Aa a (.int .i64 9) fun H=>zaa H fun I=>br I (pBin PP .eql Ab c e fun J=>zad R Bk [J] b fun K L=>some (K,L)) (pBin PP .leq Aa a (.int .i64 13) fun M=>zaa M fun N=>br N (zad R BH [a,f,c,e] b fun g O=>zaf g 0 fun P=>zaf g 1 fun az=>zad R Bk [P] O fun Q S=>some (Q,S)) (pBin PP .eql Aa a (.int .i64 14) fun T=>zaa T fun U=>br U (pBin PP .eql Ab c (.int .u64 1) fun V=>zaa V fun W=>br W (some (e,b)) (some (m,b))) (pBin PP .leq Aa a (.int .i64 16) fun X=>zaa X fun Y=>br Y (zai 1 false (zab d) 1 fun Z=>zad R BO [a,Z,c] b fun h aa=>zaf h 0 fun ab=>zaf h 1 fun ba=>some (ab,aa)) (pBin PP .leq Aa a (.int .i64 29) fun ac=>zaa ac fun ad=>br ad (zai 1 false (zab d) 1 fun ae=>zad R BE [a,ae,c,e] b fun i af=>zaf i 0 fun ag=>zaf i 1 fun bb=>some (ag,af)) (pBin PP .eql Aa a (.int .i64 30) fun ah=>zaa ah fun ai=>br ai (zad R BG [f,c,n,e] b fun j aj=>zaf j 0 fun ak=>zaf j 1 fun bc=>some (ak,aj)) (pBin PP .eql Aa a (.int .i64 31) fun al=>zaa al fun am=>br am (zai 1 false (zab d) 5 fun ao=>zaj .i64 ao fun ap=>zai 1 false (zab d) 1 fun aq=>zad R BL [f,c,ap,aq] b fun k ar=>zaf k 0 fun au=>zaf k 1 fun bd=>some (au,ar)) (zai 1 false (zab d) 0 fun av=>zai 1 false (zab d) 1 fun aw=>zad R BJ [av,f,c,aw] b fun l ax=>zaf l 0 fun ay=>zaf l 1 fun be=>some (ay,ax)))))))))))))))
noncomputable def zja(R:zag)(a b:Value)(c:Hp):Option (Value×Hp):=pBin PP .add Ab a b fun d=>pBin PP .lss Ab d a fun e=>zaa e fun f=>br f (some ((.int .u64 18446744073709551615),c)) (pBin PP .add Ab a b fun g=>some (g,c))
noncomputable def zeK(R:zag)(a b:Value)(j:Hp):Option (Value×Hp):=zau (zai 1 false (zab b) 0 fun y=>pBin PP .lss Aa y (.int .i64 1) fun z=>zaa z fun A=>br A (some (.ret,[(.tuple #[(.int .i64 0),(.int .i64 73)])],j)) (zai 1 false (zab b) 0 fun B=>pBin PP .gtr Aa B (.int .i64 33) fun C=>zaa C fun D=>br D (some (.ret,[(.tuple #[(.int .i64 0),(.int .i64 73)])],j)) (some (.next,[],j)))) fun E F g=>zaC E (zau (zai 1 false (zab b) 1 fun G=>pBin PP .lss Aa G (.int .i64 0) fun H=>zaa H fun I=>br I (some (.ret,[(.tuple #[(.int .i64 0),(.int .i64 5)])],g)) (zai 1 false (zab b) 1 fun J=>pBin PP .gtr Aa J (.int .i64 64) fun K=>zaa K fun L=>br L (some (.ret,[(.tuple #[(.int .i64 0),(.int .i64 5)])],g)) (some (.next,[],g)))) fun M N m=>zaC M (zai 1 false (zab b) 2 fun O=>zai 1 false (zab b) 3 fun P=>zai 1 false (zab b) 4 fun Q=>zaB PP A6 [(0,O),(1,P),(2,Q)] fun S=>zau (zat (fun d n=>pBin PP .lss Aa (d.getD 0 undef) (.int .i64 3) fun T=>zaa T fun U=>br U (zcx 3 false 1 S (d.getD 0 undef) fun V=>zai 1 false (zab b) 0 fun W=>zad R Ax [W] n fun X o=>pBin PP .lss Aa (d.getD 0 undef) X fun Y=>zaa Y fun Z=>br Z (zad R AL [a,V] o fun aa p=>pUn .not aa fun ab=>zaa ab fun ac=>br ac (some (.ret,[(.tuple #[(.int .i64 0),(.int .i64 70)])],p)) (pBin PP .add Aa (d.getD 0 undef) (.int .i64 1) fun ad=>some (.next,[ad],p))) (pBin PP .add Aa (d.getD 0 undef) (.int .i64 1) fun ae=>some (.next,[ae],o))) (some (.exit 0,[(d.getD 0 undef)],n))) [(.int .i64 0)] m) fun af ag q=>zaC af none (fun ah=>zav ah 0 (zai 7 true (zab b) 0 fun ai=>zad R B6 [ai] q fun aj r=>zaa aj fun ak=>br ak (some ((.tuple #[(.int .i64 0),(.int .i64 1)]),r)) (zai 7 true (zab b) 0 fun al=>zad R B4 [a,al] r fun am s=>pUn .not am fun ao=>zaa ao fun ap=>br ap (some ((.tuple #[(.int .i64 0),(.int .i64 71)]),s)) (zai 7 true (zab b) 0 fun aq=>zad R B5 [a,aq] s fun ar e=>pUn .not ar fun au=>zaa au fun av=>br av (some ((.tuple #[(.int .i64 0),(.int .i64 5)]),e)) (zau (zai 1 false (zab b) 0 fun aw=>pBin PP .eql Aa aw (.int .i64 4) fun ax=>zaa ax fun ay=>br ay (pNil a (zas 3 a fun az=>zal 1 false e az fun ba=>zai 1 false (zab b) 6 fun bb=>zbj PP Ac (.int .i64 0) ba bb true e fun t=>zaf t 0 fun bc=>zaf t 1 fun bd=>zai 1 false (zab b) 6 fun be=>zad R Bc [be] e fun bf h=>pUn .not bf fun bg=>zaa bg fun bh=>br bh (some (.ret,[(.tuple #[(.int .i64 0),(.int .i64 72)])],h)) (zaa bd fun bi=>br bi (zai 1 false (zab b) 1 fun bj=>pBin PP .neq Aa bc bj fun bk=>zaa bk fun bl=>br bl (some (.ret,[(.tuple #[(.int .i64 0),(.int .i64 72)])],h)) (some (.next,[],h))) (some (.next,[],h))))) (some (.next,[],e))) fun bm bn c=>zaC bm (pNil a (zas 2 a fun bo=>zal 1 false c bo fun bp=>zai 7 true (zab b) 0 fun bq=>zbj PP Ao (.int .i64 0) bp bq true c fun u=>zaf u 0 fun bs=>zaf u 1 fun bt=>zaa bt fun bu=>br bu (some ((.tuple #[bs,(.int .i64 0)]),c)) (zau (pNil a (zas 0 a fun bv=>zal 1 false c bv fun bw=>pBin PP .gtr Aa bw (.int .i64 0) fun bx=>zaa bx fun bz=>br bz (pNil a (zas 1 a fun ca=>zal 1 false c ca fun cb=>pLen .sl cb c fun cc=>pNil a (zas 0 a fun cd=>zal 1 false c cd fun ce=>pBin PP .geq Aa cc ce fun cf=>zaa cf fun cg=>br cg (some (.ret,[(.tuple #[(.int .i64 0),(.int .i64 4)])],c)) (some (.next,[],c))))) (some (.next,[],c)))) fun ch ci k=>zaC ch (pNil a (zas 1 a fun v=>zal 1 false k v fun w=>zai 7 true (zab b) 0 fun cj=>zam 7 [.int .i64 0,.int .i64 0,.int .i64 0,.int .i64 0,.int .i64 0,.int .u64 0,.string ⟨#[]⟩] 1 [(0,cj)] k fun ck x=>chk (Hp.rdP x v 1 false=some w) (zaJ 7 64 w ck x fun cl cm=>pNil a (zas 1 a fun cn=>zao 1 cm cn cl fun i=>pNil a (zas 2 a fun co=>zal 1 false i co fun cp=>zai 7 true (zab b) 0 fun cq=>pNil a (zas 1 a fun cr=>zal 1 false i cr fun cs=>pLen .sl cs i fun ct=>pUpd PP Ao cp cq ct i fun f=>zai 1 false (zab b) 0 fun cu=>pBin PP .eql Aa cu (.int .i64 4) fun cv=>zaa cv fun cw=>br cw (pNil a (zas 3 a fun cx=>zal 1 false f cx fun cy=>zai 1 false (zab b) 6 fun cz=>zai 1 false (zab b) 1 fun da=>pUpd PP Ac cy cz da f fun l=>pNil a (zas 1 a fun db=>zal 1 false l db fun dc=>pLen .sl dc l fun dd=>some ((.tuple #[dd,(.int .i64 0)]),l)))) (pNil a (zas 1 a fun de=>zal 1 false f de fun df=>pLen .sl df f fun dg=>some ((.tuple #[dg,(.int .i64 0)]),f))))))))) (fun dh=>none) (some ((ci.headD undef),k))))) (fun di=>none) (some ((bn.headD undef),c)))))) (none)) (some ((ag.headD undef),q))) (fun dj=>none) (some ((N.headD undef),m))) (fun dk=>none) (some ((F.headD undef),g))
noncomputable def zfU(R:zag)(b c:Value)(d:Hp):Option (Value×Hp):=zad R AL [b,c] d fun e a=>pUn .not e fun f=>zaa f fun g=>br g (some ((.int .i64 (-1)),a)) (pNil b (zas 1 b fun h=>zal 1 false a h fun i=>pBin PP .sub Aa c (.int .i64 1) fun j=>pIdx 7 i j fun k=>zas 1 k fun l=>zal 1 false a l fun m=>some (m,a)))
noncomputable def zfn(R:zag)(b c:Value)(a:Hp):Option (Value×Hp):=pBin PP .geq Aa c (.int .i64 1) fun d=>zaa d fun e=>br e (pNil b (zas 1 b fun f=>zal 1 false a f fun g=>pLen .sl g a fun h=>pBin PP .leq Aa c h fun i=>some (i,a))) (some ((.bool false),a))
noncomputable def zgO(R:zag)(a b c d e:Value)(f:Hp):Option (Value×Hp):=zeP PP orc R Bl Go.Proofs.Tryz.f52 [a,b,c,d,e] f
noncomputable def zgP(R:zag)(c:Value)(d:Hp):Option (Value×Hp):=zcI [.int .i64 0] d fun b e=>zad R BQ [c,(.iface Cy b)] e fun f a=>zaa f fun g=>br g (zal 1 false a b fun h=>some (h,a)) (some ((.int .i64 0),a))
noncomputable def zjh(R:zag)(e:Value)(d:Hp):Option (Value×Hp):=zau (pLen .str e d fun j=>pBin PP .lss Aa j (.int .i64 1) fun k=>zaa k fun l=>br l (some (.ret,[(.bool false)],d)) (pLen .str e d fun m=>pBin PP .gtr Aa m (.int .i64 24) fun n=>zaa n fun o=>br o (some (.ret,[(.bool false)],d)) (some (.next,[],d)))) fun p q f=>zaC p (zjX e fun s11=>zau (zat (fun a b=>br (Nat.blt (za1 ((a.drop 0).getD 0 undef)) (za4 ((a.drop 0).getD 0 undef)).size) (zau (pBin PP .geq Ag (.int .i32 (Utf8.decode (za4 ((a.drop 0).getD 0 undef)) (za1 ((a.drop 0).getD 0 undef))).1) (.int .i32 97) fun r=>zaa r fun s=>br s (pBin PP .leq Ag (.int .i32 (Utf8.decode (za4 ((a.drop 0).getD 0 undef)) (za1 ((a.drop 0).getD 0 undef))).1) (.int .i32 122) fun t=>zaa t fun u=>br u (some (.next,[(.bool true)],b)) (pBin PP .geq Ag (.int .i32 (Utf8.decode (za4 ((a.drop 0).getD 0 undef)) (za1 ((a.drop 0).getD 0 undef))).1) (.int .i32 65) fun v=>zaa v fun w=>br w (pBin PP .leq Ag (.int .i32 (Utf8.decode (za4 ((a.drop 0).getD 0 undef)) (za1 ((a.drop 0).getD 0 undef))).1) (.int .i32 90) fun x=>zaa x fun y=>br y (some (.next,[(.bool true)],b)) (pBin PP .eql Ag (.int .i32 (Utf8.decode (za4 ((a.drop 0).getD 0 undef)) (za1 ((a.drop 0).getD 0 undef))).1) (.int .i32 95) fun z=>some (.next,[z],b))) (pBin PP .eql Ag (.int .i32 (Utf8.decode (za4 ((a.drop 0).getD 0 undef)) (za1 ((a.drop 0).getD 0 undef))).1) (.int .i32 95) fun A=>some (.next,[A],b)))) (pBin PP .geq Ag (.int .i32 (Utf8.decode (za4 ((a.drop 0).getD 0 undef)) (za1 ((a.drop 0).getD 0 undef))).1) (.int .i32 65) fun B=>zaa B fun C=>br C (pBin PP .leq Ag (.int .i32 (Utf8.decode (za4 ((a.drop 0).getD 0 undef)) (za1 ((a.drop 0).getD 0 undef))).1) (.int .i32 90) fun D=>zaa D fun E=>br E (some (.next,[(.bool true)],b)) (pBin PP .eql Ag (.int .i32 (Utf8.decode (za4 ((a.drop 0).getD 0 undef)) (za1 ((a.drop 0).getD 0 undef))).1) (.int .i32 95) fun F=>some (.next,[F],b))) (pBin PP .eql Ag (.int .i32 (Utf8.decode (za4 ((a.drop 0).getD 0 undef)) (za1 ((a.drop 0).getD 0 undef))).1) (.int .i32 95) fun G=>some (.next,[G],b)))) fun H g c=>zaC H (pUn .not (g.getD 0 undef) fun I=>zaa I fun J=>br J (pBin PP .eql Aa (.int .i64 ((za1 ((a.drop 0).getD 0 undef)):Nat)) (.int .i64 0) fun K=>zaa K fun L=>br L (some (.ret,[(.bool false)],c)) (pBin PP .lss Ag (.int .i32 (Utf8.decode (za4 ((a.drop 0).getD 0 undef)) (za1 ((a.drop 0).getD 0 undef))).1) (.int .i32 48) fun M=>zaa M fun N=>br N (some (.ret,[(.bool false)],c)) (pBin PP .gtr Ag (.int .i32 (Utf8.decode (za4 ((a.drop 0).getD 0 undef)) (za1 ((a.drop 0).getD 0 undef))).1) (.int .i32 57) fun O=>zaa O fun P=>br P (some (.ret,[(.bool false)],c)) (some (.next,[(.tuple #[.string (za4 ((a.drop 0).getD 0 undef)),.int .i64 (((za1 ((a.drop 0).getD 0 undef))+(Utf8.decode (za4 ((a.drop 0).getD 0 undef)) (za1 ((a.drop 0).getD 0 undef))).2):Nat)])],c))))) (some (.next,[(.tuple #[.string (za4 ((a.drop 0).getD 0 undef)),.int .i64 (((za1 ((a.drop 0).getD 0 undef))+(Utf8.decode (za4 ((a.drop 0).getD 0 undef)) (za1 ((a.drop 0).getD 0 undef))).2):Nat)])],c))) (fun h=>zav h 1 (some (.next,[(.tuple #[.string (za4 ((a.drop 0).getD 0 undef)),.int .i64 (((za1 ((a.drop 0).getD 0 undef))+(Utf8.decode (za4 ((a.drop 0).getD 0 undef)) (za1 ((a.drop 0).getD 0 undef))).2):Nat)])],c)) (some (.exit h,[(.tuple #[.string (za4 ((a.drop 0).getD 0 undef)),.int .i64 (((za1 ((a.drop 0).getD 0 undef))+(Utf8.decode (za4 ((a.drop 0).getD 0 undef)) (za1 ((a.drop 0).getD 0 undef))).2):Nat)])],c))) (some (.ret,[(g.headD undef)],c))) (some (.exit 0,[(.tuple #[.string (za4 ((a.drop 0).getD 0 undef)),.int .i64 ((za1 ((a.drop 0).getD 0 undef)):Nat)])],b))) [(.tuple #[.string s11,.int .i64 (0:Nat)])] f) fun Q S i=>zaC Q none (fun T=>zav T 0 (some ((.bool true),i)) (none)) (some ((S.headD undef),i))) (fun U=>none) (some ((q.headD undef),f))
noncomputable def zjZ(R:zag)(b:Value)(a:Hp):Option (Value×Hp):=some ((.tuple #[(.int .i64 0),(.int .i64 0)]),a)
noncomputable def zdZ(R:zag)(a b:Value)(c:Hp):Option (Value×Hp):=zad R Br [a] c fun d e=>pBin PP .add Ac (.string ⟨#[32]⟩) d fun f=>zad R AE [b,f] e fun h g=>some ((.tuple #[]),g)
noncomputable def zb3(R:zag)(a b:Value)(e:Hp):Option (Value×Hp):=zad R Bv [a] e fun l c=>pNil a (zas 1 a fun f=>zal 1 false c f fun g=>zbN Ad 1 1 g b c fun h i=>pNil a (zas 1 a fun j=>zao 1 i j h fun d=>pLen .str b d fun k=>some ((.tuple #[k,.nilIface]),d)))
noncomputable def zfV(R:zag)(a:Value)(b:Hp):Option (Value×Hp):=zad R Cc [a] b fun c d=>some (c,d)
noncomputable def zhK(R:zag)(a:Hp):Option (Value×Hp):=zad R By [(.string ⟨#[45,32,116,114,117,101,32,102,97,108,115,101,32,99,111,110,115,116,32,118,97,114,32,110,111,116,32,97,110,100,32,111,114,32,120,111,114,32,101,113,32,117,108,116,32,117,108,101,32,115,108,116,32,115,108,101,32,105,116,101,32,99,111,109,32,110,101,103,32,98,97,110,100,32,98,111,114,32,98,120,111,114,32,97,100,100,32,115,117,98,32,109,117,108,32,100,105,118,32,114,101,109,32,115,104,108,32,115,104,114,32,115,97,114,32,114,111,108,32,114,111,114,32,99,97,116,32,115,108,105,99,101,32,122,101,120,116,32,115,101,120,116]⟩)] a fun b c=>some (b,c)
noncomputable def zjg(R:zag)(a:Value)(b:Hp):Option (Value×Hp):=pBin PP .lss Ab a (.int .u64 1000) fun c=>zaa c fun d=>br d (zad R A1 [a,(.int .i64 10)] b fun e f=>some (e,f)) (zad R A1 [a,(.int .i64 16)] b fun g h=>pBin PP .add Ac (.string ⟨#[48,120]⟩) g fun i=>some (i,h))
noncomputable def zhJ(R:zag)(b:Value)(c:Hp):Option (Value×Hp):=zau (pBin PP .eql Aa b (.int .i64 1) fun d=>zaa d fun m=>br m (some (.next,[d],c)) (pBin PP .eql Aa b (.int .i64 2) fun e=>zaa e fun n=>br n (some (.next,[e],c)) (pBin PP .eql Aa b (.int .i64 3) fun f=>zaa f fun o=>br o (some (.next,[f],c)) (pBin PP .eql Aa b (.int .i64 4) fun p=>some (.next,[p],c))))) fun q g a=>zaC q (zaa (g.getD 0 undef) fun r=>br r (some ((.int .i64 0),a)) (pBin PP .eql Aa b (.int .i64 5) fun h=>zaa h fun s=>br s (zaa h fun t=>br t (some ((.int .i64 1),a)) (pBin PP .eql Aa b (.int .i64 14) fun u=>zaa u fun v=>br v (some ((.int .i64 3),a)) (some ((.int .i64 2),a)))) (pBin PP .eql Aa b (.int .i64 15) fun i=>zaa i fun w=>br w (zaa i fun x=>br x (some ((.int .i64 1),a)) (pBin PP .eql Aa b (.int .i64 14) fun y=>zaa y fun z=>br z (some ((.int .i64 3),a)) (some ((.int .i64 2),a)))) (pBin PP .eql Aa b (.int .i64 16) fun j=>zaa j fun A=>br A (zaa j fun B=>br B (some ((.int .i64 1),a)) (pBin PP .eql Aa b (.int .i64 14) fun C=>zaa C fun D=>br D (some ((.int .i64 3),a)) (some ((.int .i64 2),a)))) (pBin PP .eql Aa b (.int .i64 31) fun k=>zaa k fun E=>br E (zaa k fun F=>br F (some ((.int .i64 1),a)) (pBin PP .eql Aa b (.int .i64 14) fun G=>zaa G fun H=>br H (some ((.int .i64 3),a)) (some ((.int .i64 2),a)))) (pBin PP .eql Aa b (.int .i64 32) fun l=>zaa l fun I=>br I (zaa l fun J=>br J (some ((.int .i64 1),a)) (pBin PP .eql Aa b (.int .i64 14) fun K=>zaa K fun L=>br L (some ((.int .i64 3),a)) (some ((.int .i64 2),a)))) (pBin PP .eql Aa b (.int .i64 33) fun M=>zaa M fun N=>br N (some ((.int .i64 1),a)) (pBin PP .eql Aa b (.int .i64 14) fun O=>zaa O fun P=>br P (some ((.int .i64 3),a)) (some ((.int .i64 2),a)))))))))) (fun Q=>zav Q 0 (some ((.int .i64 2),a)) (none)) (some ((g.headD undef),a))
noncomputable def zcl(R:zag)(a c:Value)(d:Hp):Option (Value×Hp):=zad R Bv [a] d fun m b=>pNil a (zas 1 a fun e=>zal 1 false b e fun f=>zam 1 [.int .u8 0] 1 [(0,c)] b fun g h=>zbN Ad 1 1 f g h fun i j=>pNil a (zas 1 a fun k=>zao 1 j k i fun l=>some (.nilIface,l)))
noncomputable def zfo(R:zag)(a b:Value)(c:Hp):Option (Value×Hp):=zad R BA [a,b,(.int .i64 0),(.int .i64 (-1))] c fun d e=>some (d,e)
noncomputable def zcL(R:zag)(x b c d:Value)(a:Hp):Option (Value×Hp):=zdW PP .eql Cd x fun e=>zaa e fun f=>br f (some ((.tuple #[]),a)) (zgi PP Ae x fun g=>zaV 1 [.int .i64 0] 0 g fun h=>zai 1 false h 0 fun i=>zao 1 a b (.pointer none) fun j=>zao 1 j c (.slice none 0 0) fun k=>zao 1 k d i fun l=>some ((.tuple #[]),l))
theorem zg2(R:zag)(x a b c:Value)(d:Hp){α:Type}(k:Hp→Option α):zg1 PP orc R BB [a,b,c] x d k=zg6 (zcL R x a b c d) fun _ H=>k H:=by kernel_rfl
noncomputable def zdy(R:zag)(a b:Value)(c:Hp):Option (Value×Hp):=zeP PP orc R AK Go.Proofs.Tryz.f67 [a,b] c
noncomputable def zgN(R:zag)(a:Value)(b:Hp):Option (Value×Hp):=pBin PP .eql Ag a (.int .i32 32) fun c=>some (c,b)
noncomputable def zcK(R:zag)(a:Value)(b:Hp):Option (Value×Hp):=pNil a (zas 1 a fun c=>zal 1 false b c fun d=>pLen .sl d b fun e=>pBin PP .eql Aa e (.int .i64 0) fun f=>zaa f fun g=>br g (zaB PP Ae [(0,(.int .i64 3))] fun h=>some ((W0 (.iface Ae h)),b)) (pNil a (zas 1 a fun i=>zal 1 false b i fun j=>pIdx 1 j (.int .i64 0) fun k=>zal 1 false b k fun l=>pNil a (zas 1 a fun m=>zal 1 false b m fun n=>zdw 1 n (some (.int .i64 1)) none fun o=>pNil a (zas 1 a fun p=>zao 1 b p o fun q=>some ((W1 l),q))))))
noncomputable def zeh(R:zag)(b:Value)(d:Hp):Option (Value×Hp):=zbh R An [b] d (fun e f=>some ((W0 e),f)) fun c a=>pBin PP .lss Aa c (.int .i64 1) fun g=>zaa g fun h=>br h (zaB PP Ae [(0,(.int .i64 3))] fun i=>some ((W0 (.iface Ae i)),a)) (pNil b (zas 2 b fun j=>zal 1 false a j fun k=>pLen .sl k a fun l=>pBin PP .gtr Aa c l fun m=>zaa m fun n=>br n (zaB PP Ae [(0,(.int .i64 3))] fun o=>some ((W0 (.iface Ae o)),a)) (pNil b (zas 2 b fun p=>zal 1 false a p fun q=>pBin PP .sub Aa c (.int .i64 1) fun r=>pIdx 1 q r fun s=>zal 1 false a s fun t=>some ((W1 t),a)))))
noncomputable def zdx(R:zag)(d:Value)(e:Hp):Option (Value×Hp):=zbh R Ap [d] e (fun f g=>some ((W0 f),g)) fun h i=>zad R AP [h] i fun b a=>zaf b 0 fun c=>zaf b 1 fun j=>pBin PP .neq Ak j (.int .i64 0) fun k=>zaa k fun l=>br l (zaB PP Ae [(0,(.int .i64 3))] fun m=>some ((W0 (.iface Ae m)),a)) (pBin PP .geq Ab c (.int .u64 2147483648) fun n=>zaa n fun o=>br o (zaB PP Ae [(0,(.int .i64 3))] fun p=>some ((W0 (.iface Ae p)),a)) (zaj .i64 c fun q=>some ((W1 q),a)))
noncomputable def zei(R:zag)(a:Value)(b:Hp):Option (Value×Hp):=zeP PP orc R AN Go.Proofs.Tryz.f72 [a] b
noncomputable def zjf(R:zag)(a c:Value)(b:Hp):Option (Value×Hp):=pBin PP .lss Aa a (.int .i64 1) fun d=>zaa d fun e=>br e (some ((.int .u64 0),b)) (pBin PP .geq Aa a (.int .i64 64) fun f=>zaa f fun g=>br g (some (c,b)) (zaj .u64 a fun h=>pBin PP .shl Ab (.int .u64 1) h fun i=>pBin PP .sub Ab i (.int .u64 1) fun j=>pBin PP .and Ab c j fun k=>some (k,b)))
noncomputable def zkB(R:zag)(b:Value)(a:Hp):Option (Value×Hp):=zaa b fun c=>br c (some ((.int .u64 1),a)) (some ((.int .u64 0),a))
noncomputable def zkD(R:zag)(a b k l:Value)(f:Hp):Option (Value×Hp):=zau (pBin PP .lss Aa a (.int .i64 9) fun m=>zaa m fun n=>br n (some (.ret,[(.tuple #[(.bool false),(.int .i64 73)])],f)) (pBin PP .gtr Aa a (.int .i64 13) fun o=>zaa o fun p=>br p (some (.ret,[(.tuple #[(.bool false),(.int .i64 73)])],f)) (some (.next,[],f)))) fun q r g=>zaC q (zad R Aq [b] g fun s h=>pUn .not s fun t=>zaa t fun u=>br u (some ((.tuple #[(.bool false),(.int .i64 5)]),h)) (zad R Af [b,k] h fun d v=>zad R Af [b,l] v fun e w=>zad R AQ [b,d] w fun i x=>zad R AQ [b,e] x fun j c=>pBin PP .eql Aa a (.int .i64 9) fun y=>zaa y fun z=>br z (pBin PP .eql Ab d e fun A=>some ((.tuple #[A,(.int .i64 0)]),c)) (pBin PP .eql Aa a (.int .i64 10) fun B=>zaa B fun C=>br C (pBin PP .lss Ab d e fun D=>some ((.tuple #[D,(.int .i64 0)]),c)) (pBin PP .eql Aa a (.int .i64 11) fun E=>zaa E fun F=>br F (pBin PP .leq Ab d e fun G=>some ((.tuple #[G,(.int .i64 0)]),c)) (pBin PP .eql Aa a (.int .i64 12) fun H=>zaa H fun I=>br I (pBin PP .lss B8 i j fun J=>some ((.tuple #[J,(.int .i64 0)]),c)) (pBin PP .leq B8 i j fun K=>some ((.tuple #[K,(.int .i64 0)]),c))))))) (fun L=>none) (some ((r.headD undef),g))
noncomputable def zmO(R:zag)(b a c:Value)(d:Hp):Option (Value×Hp):=pBin PP .neq Aa b (.int .i64 15) fun g=>zaa g fun h=>br h (pBin PP .neq Aa b (.int .i64 16) fun i=>zaa i fun j=>br j (some ((.tuple #[(.int .u64 0),(.int .i64 73)]),d)) (zad R Aq [a] d fun k e=>pUn .not k fun l=>zaa l fun m=>br m (some ((.tuple #[(.int .u64 0),(.int .i64 5)]),e)) (pBin PP .eql Aa b (.int .i64 15) fun n=>zaa n fun o=>br o (pUn .xor c fun p=>zad R Af [a,p] e fun q r=>some ((.tuple #[q,(.int .i64 0)]),r)) (pUn .neg c fun s=>zad R Af [a,s] e fun t u=>some ((.tuple #[t,(.int .i64 0)]),u))))) (zad R Aq [a] d fun v f=>pUn .not v fun w=>zaa w fun x=>br x (some ((.tuple #[(.int .u64 0),(.int .i64 5)]),f)) (pBin PP .eql Aa b (.int .i64 15) fun y=>zaa y fun z=>br z (pUn .xor c fun A=>zad R Af [a,A] f fun B C=>some ((.tuple #[B,(.int .i64 0)]),C)) (pUn .neg c fun D=>zad R Af [a,D] f fun E F=>some ((.tuple #[E,(.int .i64 0)]),F))))
noncomputable def zkF(R:zag)(b a l m:Value)(f:Hp):Option (Value×Hp):=zau (pBin PP .lss Aa b (.int .i64 17) fun n=>zaa n fun o=>br o (some (.ret,[(.tuple #[(.int .u64 0),(.int .i64 73)])],f)) (pBin PP .gtr Aa b (.int .i64 29) fun p=>zaa p fun q=>br q (some (.ret,[(.tuple #[(.int .u64 0),(.int .i64 73)])],f)) (some (.next,[],f)))) fun r s g=>zaC r (zau (zad R Aq [a] g fun t h=>pUn .not t fun u=>zaa u fun v=>br v (some (.ret,[(.tuple #[(.int .u64 0),(.int .i64 5)])],h)) (zad R Bf [b] h fun w i=>zaa w fun x=>br x (zaj .u64 a fun y=>zad R AV [y] i fun z j=>pBin PP .neq Aa z (.int .i64 1) fun A=>zaa A fun B=>br B (some (.ret,[(.tuple #[(.int .u64 0),(.int .i64 5)])],j)) (some (.next,[],j))) (some (.next,[],i)))) fun C D k=>zaC C (zad R Af [a,l] k fun e E=>zad R Af [a,m] E fun d F=>zad R Bf [b] F fun G c=>zaa G fun H=>br H (zaj .u64 a fun I=>pBin PP .rem Ab d I fun J=>zaj .i64 J fun K=>zad R Be [b,a,e,K] c fun L M=>some ((.tuple #[L,(.int .i64 0)]),M)) (pBin PP .eql Aa b (.int .i64 17) fun N=>zaa N fun O=>br O (pBin PP .and Ab e d fun P=>zad R Af [a,P] c fun Q S=>some ((.tuple #[Q,(.int .i64 0)]),S)) (pBin PP .eql Aa b (.int .i64 18) fun T=>zaa T fun U=>br U (pBin PP .or Ab e d fun V=>zad R Af [a,V] c fun W X=>some ((.tuple #[W,(.int .i64 0)]),X)) (pBin PP .eql Aa b (.int .i64 19) fun Y=>zaa Y fun Z=>br Z (pBin PP .xor Ab e d fun aa=>zad R Af [a,aa] c fun ab ac=>some ((.tuple #[ab,(.int .i64 0)]),ac)) (pBin PP .eql Aa b (.int .i64 20) fun ad=>zaa ad fun ae=>br ae (pBin PP .add Ab e d fun af=>zad R Af [a,af] c fun ag ah=>some ((.tuple #[ag,(.int .i64 0)]),ah)) (pBin PP .eql Aa b (.int .i64 21) fun ai=>zaa ai fun aj=>br aj (pBin PP .sub Ab e d fun ak=>zad R Af [a,ak] c fun al am=>some ((.tuple #[al,(.int .i64 0)]),am)) (pBin PP .eql Aa b (.int .i64 22) fun ao=>zaa ao fun ap=>br ap (pBin PP .mul Ab e d fun aq=>zad R Af [a,aq] c fun ar au=>some ((.tuple #[ar,(.int .i64 0)]),au)) (pBin PP .eql Aa b (.int .i64 23) fun av=>zaa av fun aw=>br aw (pBin PP .neq Ab d (.int .u64 0) fun ax=>zaa ax fun ay=>br ay (pBin PP .quo Ab e d fun az=>zad R Af [a,az] c fun ba bb=>some ((.tuple #[ba,(.int .i64 0)]),bb)) (zad R Af [a,(.int .u64 18446744073709551615)] c fun bc bd=>some ((.tuple #[bc,(.int .i64 0)]),bd))) (pBin PP .eql Aa b (.int .i64 24) fun be=>zaa be fun bf=>br bf (pBin PP .neq Ab d (.int .u64 0) fun bg=>zaa bg fun bh=>br bh (pBin PP .rem Ab e d fun bi=>zad R Af [a,bi] c fun bj bk=>some ((.tuple #[bj,(.int .i64 0)]),bk)) (zad R Af [a,e] c fun bl bm=>some ((.tuple #[bl,(.int .i64 0)]),bm))) (zad R Af [a,(.int .u64 0)] c fun bn bo=>some ((.tuple #[bn,(.int .i64 0)]),bo))))))))))) (fun bp=>none) (some ((D.headD undef),k))) (fun bq=>none) (some ((s.headD undef),g))
noncomputable def zkE(R:zag)(b e a f:Value)(g:Hp):Option (Value×Hp):=zad R Aq [b] g fun h d=>pUn .not h fun i=>zaa i fun j=>br j (some ((.tuple #[(.int .u64 0),(.int .i64 5)]),d)) (zad R Aq [a] d fun k c=>pUn .not k fun l=>zaa l fun m=>br m (some ((.tuple #[(.int .u64 0),(.int .i64 5)]),c)) (pBin PP .add Aa b a fun n=>pBin PP .gtr Aa n (.int .i64 64) fun o=>zaa o fun p=>br p (some ((.tuple #[(.int .u64 0),(.int .i64 5)]),c)) (zad R Af [b,e] c fun q r=>zaj .u64 a fun s=>pBin PP .shl Ab q s fun t=>zad R Af [a,f] r fun u v=>pBin PP .or Ab t u fun w=>some ((.tuple #[w,(.int .i64 0)]),v))))
noncomputable def zhO(R:zag)(b f c d:Value)(g:Hp):Option (Value×Hp):=zau (zad R Aq [b] g fun h a=>pUn .not h fun i=>zaa i fun j=>br j (some (.ret,[(.tuple #[(.int .u64 0),(.int .i64 5)])],a)) (pBin PP .lss Aa d (.int .i64 1) fun k=>zaa k fun l=>br l (some (.ret,[(.tuple #[(.int .u64 0),(.int .i64 5)])],a)) (pBin PP .lss Aa c (.int .i64 0) fun m=>zaa m fun n=>br n (some (.ret,[(.tuple #[(.int .u64 0),(.int .i64 5)])],a)) (pBin PP .gtr Aa c b fun o=>zaa o fun p=>br p (some (.ret,[(.tuple #[(.int .u64 0),(.int .i64 5)])],a)) (pBin PP .sub Aa b c fun q=>pBin PP .gtr Aa d q fun r=>zaa r fun s=>br s (some (.ret,[(.tuple #[(.int .u64 0),(.int .i64 5)])],a)) (some (.next,[],a))))))) fun t u e=>zaC t (zad R Af [b,f] e fun v w=>zaj .u64 c fun x=>pBin PP .shr Ab v x fun y=>zad R Af [d,y] w fun z A=>some ((.tuple #[z,(.int .i64 0)]),A)) (fun B=>none) (some ((u.headD undef),e))
noncomputable def zkC(R:zag)(b a g c:Value)(d:Hp):Option (Value×Hp):=zau (pBin PP .neq Aa b (.int .i64 32) fun j=>zaa j fun k=>br k (pBin PP .neq Aa b (.int .i64 33) fun l=>zaa l fun m=>br m (some (.ret,[(.tuple #[(.int .u64 0),(.int .i64 73)])],d)) (some (.next,[],d))) (some (.next,[],d))) fun n o h=>zaC n (zau (zad R Aq [a] h fun p i=>pUn .not p fun q=>zaa q fun r=>br r (some (.ret,[(.tuple #[(.int .u64 0),(.int .i64 5)])],i)) (zad R Aq [c] i fun s e=>pUn .not s fun t=>zaa t fun u=>br u (some (.ret,[(.tuple #[(.int .u64 0),(.int .i64 5)])],e)) (pBin PP .lss Aa c a fun v=>zaa v fun w=>br w (some (.ret,[(.tuple #[(.int .u64 0),(.int .i64 5)])],e)) (some (.next,[],e))))) fun x y f=>zaC x (pBin PP .eql Aa b (.int .i64 32) fun z=>zaa z fun A=>br A (zad R Af [a,g] f fun B C=>some ((.tuple #[B,(.int .i64 0)]),C)) (zad R AQ [a,g] f fun D E=>zaj .u64 D fun F=>zad R Af [c,F] E fun G H=>some ((.tuple #[G,(.int .i64 0)]),H))) (fun I=>none) (some ((y.headD undef),f))) (fun J=>none) (some ((o.headD undef),h))
noncomputable def zhI(R:zag)(a:Value)(d:Hp):Option (Value×Hp):=zai 1 false (zab a) 0 fun e=>zad R Ax [e] d fun c b=>pBin PP .lss Aa c (.int .i64 1) fun f=>zaa f fun g=>br g (zai 1 false (zab a) 2 fun h=>pBin PP .neq Aa h (.int .i64 0) fun i=>zaa i fun j=>br j (some ((.bool true),b)) (pBin PP .lss Aa c (.int .i64 2) fun k=>zaa k fun l=>br l (zai 1 false (zab a) 3 fun m=>pBin PP .neq Aa m (.int .i64 0) fun n=>zaa n fun o=>br o (some ((.bool true),b)) (pBin PP .lss Aa c (.int .i64 3) fun p=>zaa p fun q=>br q (zai 1 false (zab a) 4 fun r=>pBin PP .neq Aa r (.int .i64 0) fun s=>zaa s fun t=>br t (some ((.bool true),b)) (zai 1 false (zab a) 5 fun u=>pBin PP .neq Ab u (.int .u64 0) fun v=>zaa v fun w=>br w (zai 1 false (zab a) 0 fun x=>pBin PP .neq Aa x (.int .i64 3) fun y=>zaa y fun z=>br z (zai 1 false (zab a) 0 fun A=>pBin PP .neq Aa A (.int .i64 31) fun B=>zaa B fun C=>br C (some ((.bool true),b)) (zai 1 false (zab a) 6 fun D=>pBin PP .neq Ac D (.string ⟨#[]⟩) fun E=>zaa E fun F=>br F (zai 1 false (zab a) 0 fun G=>pBin PP .neq Aa G (.int .i64 4) fun H=>some (H,b)) (some ((.bool false),b)))) (zai 1 false (zab a) 6 fun I=>pBin PP .neq Ac I (.string ⟨#[]⟩) fun J=>zaa J fun K=>br K (zai 1 false (zab a) 0 fun L=>pBin PP .neq Aa L (.int .i64 4) fun M=>some (M,b)) (some ((.bool false),b)))) (zai 1 false (zab a) 6 fun N=>pBin PP .neq Ac N (.string ⟨#[]⟩) fun O=>zaa O fun P=>br P (zai 1 false (zab a) 0 fun Q=>pBin PP .neq Aa Q (.int .i64 4) fun S=>some (S,b)) (some ((.bool false),b))))) (zai 1 false (zab a) 5 fun T=>pBin PP .neq Ab T (.int .u64 0) fun U=>zaa U fun V=>br V (zai 1 false (zab a) 0 fun W=>pBin PP .neq Aa W (.int .i64 3) fun X=>zaa X fun Y=>br Y (zai 1 false (zab a) 0 fun Z=>pBin PP .neq Aa Z (.int .i64 31) fun aa=>zaa aa fun ab=>br ab (some ((.bool true),b)) (zai 1 false (zab a) 6 fun ac=>pBin PP .neq Ac ac (.string ⟨#[]⟩) fun ad=>zaa ad fun ae=>br ae (zai 1 false (zab a) 0 fun af=>pBin PP .neq Aa af (.int .i64 4) fun ag=>some (ag,b)) (some ((.bool false),b)))) (zai 1 false (zab a) 6 fun ah=>pBin PP .neq Ac ah (.string ⟨#[]⟩) fun ai=>zaa ai fun aj=>br aj (zai 1 false (zab a) 0 fun ak=>pBin PP .neq Aa ak (.int .i64 4) fun al=>some (al,b)) (some ((.bool false),b)))) (zai 1 false (zab a) 6 fun am=>pBin PP .neq Ac am (.string ⟨#[]⟩) fun ao=>zaa ao fun ap=>br ap (zai 1 false (zab a) 0 fun aq=>pBin PP .neq Aa aq (.int .i64 4) fun ar=>some (ar,b)) (some ((.bool false),b)))))) (pBin PP .lss Aa c (.int .i64 3) fun au=>zaa au fun av=>br av (zai 1 false (zab a) 4 fun aw=>pBin PP .neq Aa aw (.int .i64 0) fun ax=>zaa ax fun ay=>br ay (some ((.bool true),b)) (zai 1 false (zab a) 5 fun az=>pBin PP .neq Ab az (.int .u64 0) fun ba=>zaa ba fun bb=>br bb (zai 1 false (zab a) 0 fun bc=>pBin PP .neq Aa bc (.int .i64 3) fun bd=>zaa bd fun be=>br be (zai 1 false (zab a) 0 fun bf=>pBin PP .neq Aa bf (.int .i64 31) fun bg=>zaa bg fun bh=>br bh (some ((.bool true),b)) (zai 1 false (zab a) 6 fun bi=>pBin PP .neq Ac bi (.string ⟨#[]⟩) fun bj=>zaa bj fun bk=>br bk (zai 1 false (zab a) 0 fun bl=>pBin PP .neq Aa bl (.int .i64 4) fun bm=>some (bm,b)) (some ((.bool false),b)))) (zai 1 false (zab a) 6 fun bn=>pBin PP .neq Ac bn (.string ⟨#[]⟩) fun bo=>zaa bo fun bp=>br bp (zai 1 false (zab a) 0 fun bq=>pBin PP .neq Aa bq (.int .i64 4) fun bs=>some (bs,b)) (some ((.bool false),b)))) (zai 1 false (zab a) 6 fun bt=>pBin PP .neq Ac bt (.string ⟨#[]⟩) fun bu=>zaa bu fun bv=>br bv (zai 1 false (zab a) 0 fun bw=>pBin PP .neq Aa bw (.int .i64 4) fun bx=>some (bx,b)) (some ((.bool false),b))))) (zai 1 false (zab a) 5 fun bz=>pBin PP .neq Ab bz (.int .u64 0) fun ca=>zaa ca fun cb=>br cb (zai 1 false (zab a) 0 fun cc=>pBin PP .neq Aa cc (.int .i64 3) fun cd=>zaa cd fun ce=>br ce (zai 1 false (zab a) 0 fun cf=>pBin PP .neq Aa cf (.int .i64 31) fun cg=>zaa cg fun ch=>br ch (some ((.bool true),b)) (zai 1 false (zab a) 6 fun ci=>pBin PP .neq Ac ci (.string ⟨#[]⟩) fun cj=>zaa cj fun ck=>br ck (zai 1 false (zab a) 0 fun cl=>pBin PP .neq Aa cl (.int .i64 4) fun cm=>some (cm,b)) (some ((.bool false),b)))) (zai 1 false (zab a) 6 fun cn=>pBin PP .neq Ac cn (.string ⟨#[]⟩) fun co=>zaa co fun cp=>br cp (zai 1 false (zab a) 0 fun cq=>pBin PP .neq Aa cq (.int .i64 4) fun cr=>some (cr,b)) (some ((.bool false),b)))) (zai 1 false (zab a) 6 fun cs=>pBin PP .neq Ac cs (.string ⟨#[]⟩) fun ct=>zaa ct fun cu=>br cu (zai 1 false (zab a) 0 fun cv=>pBin PP .neq Aa cv (.int .i64 4) fun cw=>some (cw,b)) (some ((.bool false),b))))))) (pBin PP .lss Aa c (.int .i64 2) fun cx=>zaa cx fun cy=>br cy (zai 1 false (zab a) 3 fun cz=>pBin PP .neq Aa cz (.int .i64 0) fun da=>zaa da fun db=>br db (some ((.bool true),b)) (pBin PP .lss Aa c (.int .i64 3) fun dc=>zaa dc fun dd=>br dd (zai 1 false (zab a) 4 fun de=>pBin PP .neq Aa de (.int .i64 0) fun df=>zaa df fun dg=>br dg (some ((.bool true),b)) (zai 1 false (zab a) 5 fun dh=>pBin PP .neq Ab dh (.int .u64 0) fun di=>zaa di fun dj=>br dj (zai 1 false (zab a) 0 fun dk=>pBin PP .neq Aa dk (.int .i64 3) fun dl=>zaa dl fun dm=>br dm (zai 1 false (zab a) 0 fun dn=>pBin PP .neq Aa dn (.int .i64 31) fun dp=>zaa dp fun dq=>br dq (some ((.bool true),b)) (zai 1 false (zab a) 6 fun dr=>pBin PP .neq Ac dr (.string ⟨#[]⟩) fun ds=>zaa ds fun dt=>br dt (zai 1 false (zab a) 0 fun du=>pBin PP .neq Aa du (.int .i64 4) fun dv=>some (dv,b)) (some ((.bool false),b)))) (zai 1 false (zab a) 6 fun dw=>pBin PP .neq Ac dw (.string ⟨#[]⟩) fun dx=>zaa dx fun dy=>br dy (zai 1 false (zab a) 0 fun dz=>pBin PP .neq Aa dz (.int .i64 4) fun ea=>some (ea,b)) (some ((.bool false),b)))) (zai 1 false (zab a) 6 fun eb=>pBin PP .neq Ac eb (.string ⟨#[]⟩) fun ec=>zaa ec fun ed=>br ed (zai 1 false (zab a) 0 fun ee=>pBin PP .neq Aa ee (.int .i64 4) fun ef=>some (ef,b)) (some ((.bool false),b))))) (zai 1 false (zab a) 5 fun eg=>pBin PP .neq Ab eg (.int .u64 0) fun eh=>zaa eh fun ei=>br ei (zai 1 false (zab a) 0 fun ej=>pBin PP .neq Aa ej (.int .i64 3) fun ek=>zaa ek fun el=>br el (zai 1 false (zab a) 0 fun em=>pBin PP .neq Aa em (.int .i64 31) fun en=>zaa en fun eo=>br eo (some ((.bool true),b)) (zai 1 false (zab a) 6 fun ep=>pBin PP .neq Ac ep (.string ⟨#[]⟩) fun eq=>zaa eq fun er=>br er (zai 1 false (zab a) 0 fun es=>pBin PP .neq Aa es (.int .i64 4) fun et=>some (et,b)) (some ((.bool false),b)))) (zai 1 false (zab a) 6 fun eu=>pBin PP .neq Ac eu (.string ⟨#[]⟩) fun ev=>zaa ev fun ew=>br ew (zai 1 false (zab a) 0 fun ex=>pBin PP .neq Aa ex (.int .i64 4) fun ey=>some (ey,b)) (some ((.bool false),b)))) (zai 1 false (zab a) 6 fun ez=>pBin PP .neq Ac ez (.string ⟨#[]⟩) fun fa=>zaa fa fun fb=>br fb (zai 1 false (zab a) 0 fun fc=>pBin PP .neq Aa fc (.int .i64 4) fun fd=>some (fd,b)) (some ((.bool false),b)))))) (pBin PP .lss Aa c (.int .i64 3) fun fe=>zaa fe fun ff=>br ff (zai 1 false (zab a) 4 fun fg=>pBin PP .neq Aa fg (.int .i64 0) fun fh=>zaa fh fun fi=>br fi (some ((.bool true),b)) (zai 1 false (zab a) 5 fun fj=>pBin PP .neq Ab fj (.int .u64 0) fun fk=>zaa fk fun fl=>br fl (zai 1 false (zab a) 0 fun fm=>pBin PP .neq Aa fm (.int .i64 3) fun fn=>zaa fn fun fo=>br fo (zai 1 false (zab a) 0 fun fp=>pBin PP .neq Aa fp (.int .i64 31) fun fq=>zaa fq fun fr=>br fr (some ((.bool true),b)) (zai 1 false (zab a) 6 fun fs=>pBin PP .neq Ac fs (.string ⟨#[]⟩) fun ft=>zaa ft fun fu=>br fu (zai 1 false (zab a) 0 fun fv=>pBin PP .neq Aa fv (.int .i64 4) fun fw=>some (fw,b)) (some ((.bool false),b)))) (zai 1 false (zab a) 6 fun fx=>pBin PP .neq Ac fx (.string ⟨#[]⟩) fun fy=>zaa fy fun fz=>br fz (zai 1 false (zab a) 0 fun ga=>pBin PP .neq Aa ga (.int .i64 4) fun gb=>some (gb,b)) (some ((.bool false),b)))) (zai 1 false (zab a) 6 fun gc=>pBin PP .neq Ac gc (.string ⟨#[]⟩) fun gd=>zaa gd fun ge=>br ge (zai 1 false (zab a) 0 fun gf=>pBin PP .neq Aa gf (.int .i64 4) fun gg=>some (gg,b)) (some ((.bool false),b))))) (zai 1 false (zab a) 5 fun gh=>pBin PP .neq Ab gh (.int .u64 0) fun gi=>zaa gi fun gj=>br gj (zai 1 false (zab a) 0 fun gk=>pBin PP .neq Aa gk (.int .i64 3) fun gl=>zaa gl fun gm=>br gm (zai 1 false (zab a) 0 fun gn=>pBin PP .neq Aa gn (.int .i64 31) fun go=>zaa go fun gp=>br gp (some ((.bool true),b)) (zai 1 false (zab a) 6 fun gq=>pBin PP .neq Ac gq (.string ⟨#[]⟩) fun gr=>zaa gr fun gs=>br gs (zai 1 false (zab a) 0 fun gt=>pBin PP .neq Aa gt (.int .i64 4) fun gu=>some (gu,b)) (some ((.bool false),b)))) (zai 1 false (zab a) 6 fun gv=>pBin PP .neq Ac gv (.string ⟨#[]⟩) fun gw=>zaa gw fun gx=>br gx (zai 1 false (zab a) 0 fun gy=>pBin PP .neq Aa gy (.int .i64 4) fun gz=>some (gz,b)) (some ((.bool false),b)))) (zai 1 false (zab a) 6 fun ha=>pBin PP .neq Ac ha (.string ⟨#[]⟩) fun hb=>zaa hb fun hc=>br hc (zai 1 false (zab a) 0 fun hd=>pBin PP .neq Aa hd (.int .i64 4) fun he=>some (he,b)) (some ((.bool false),b))))))
noncomputable def zdY(R:zag)(g f:Value)(j:Hp):Option (Value×Hp):=zai 1 false (zab f) 2 fun k=>zad R Aj [g,k] j fun b l=>zai 1 false (zab f) 3 fun m=>zad R Aj [g,m] l fun d n=>zai 1 false (zab f) 0 fun c=>zad R Ax [c] n fun o e=>pBin PP .eql Aa o (.int .i64 0) fun p=>zaa p fun q=>br q (some ((.bool true),e)) (pBin PP .eql Aa c (.int .i64 5) fun r=>zaa r fun s=>br s (pBin PP .eql Aa b (.int .i64 0) fun t=>some (t,e)) (zau (pBin PP .eql Aa c (.int .i64 6) fun u=>zaa u fun v=>br v (some (.next,[(.bool true)],e)) (pBin PP .eql Aa c (.int .i64 7) fun w=>zaa w fun x=>br x (some (.next,[(.bool true)],e)) (pBin PP .eql Aa c (.int .i64 8) fun y=>some (.next,[y],e)))) fun z i a=>zaC z (zaa (i.getD 0 undef) fun A=>br A (pBin PP .eql Aa b (.int .i64 0) fun B=>zaa B fun C=>br C (pBin PP .eql Aa d (.int .i64 0) fun D=>some (D,a)) (some ((.bool false),a))) (pBin PP .eql Aa c (.int .i64 9) fun E=>zaa E fun F=>br F (pBin PP .eql Aa b d fun G=>some (G,a)) (pBin PP .eql Aa c (.int .i64 14) fun H=>zaa H fun I=>br I (pBin PP .eql Aa b (.int .i64 0) fun J=>zaa J fun K=>br K (zai 1 false (zab f) 4 fun L=>zad R Aj [g,L] a fun M N=>pBin PP .eql Aa d M fun O=>some (O,N)) (some ((.bool false),a))) (pBin PP .eql Aa c (.int .i64 30) fun P=>zaa P fun Q=>br Q (pBin PP .gtr Aa b (.int .i64 0) fun S=>zaa S fun T=>br T (pBin PP .gtr Aa d (.int .i64 0) fun U=>some (U,a)) (some ((.bool false),a))) (zad R Ax [c] a fun V h=>pBin PP .eql Aa V (.int .i64 1) fun W=>zaa W fun X=>br X (pBin PP .gtr Aa b (.int .i64 0) fun Y=>some (Y,h)) (pBin PP .gtr Aa b (.int .i64 0) fun Z=>zaa Z fun aa=>br aa (pBin PP .eql Aa b d fun ab=>some (ab,h)) (some ((.bool false),h)))))))) (fun ac=>zav ac 0 (pBin PP .gtr Aa b (.int .i64 0) fun ad=>zaa ad fun ae=>br ae (pBin PP .eql Aa b d fun af=>some (af,a)) (some ((.bool false),a))) (none)) (some ((i.headD undef),a))))
noncomputable def zeI(R:zag)(g a:Value)(j:Hp):Option (Value×Hp):=zai 1 false (zab a) 2 fun k=>zad R Aj [g,k] j fun d f=>zai 1 false (zab a) 0 fun b=>zau (pBin PP .eql Aa b (.int .i64 1) fun l=>zaa l fun m=>br m (some (.next,[(.bool true)],f)) (pBin PP .eql Aa b (.int .i64 2) fun n=>zaa n fun o=>br o (some (.next,[(.bool true)],f)) (pBin PP .geq Aa b (.int .i64 5) fun p=>zaa p fun q=>br q (pBin PP .leq Aa b (.int .i64 13) fun r=>some (.next,[r],f)) (some (.next,[(.bool false)],f))))) fun s h e=>zaC s (zaa (h.getD 0 undef) fun t=>br t (zai 1 false (zab a) 1 fun u=>pBin PP .eql Aa u (.int .i64 0) fun v=>some (v,e)) (pBin PP .eql Aa b (.int .i64 3) fun w=>zaa w fun x=>br x (zai 1 false (zab a) 1 fun y=>pBin PP .gtr Aa y (.int .i64 0) fun z=>zaa z fun A=>br A (zai 1 false (zab a) 1 fun B=>zai 1 false (zab a) 5 fun C=>zad R Af [B,C] e fun D E=>zai 1 false (zab a) 5 fun F=>pBin PP .eql Ab D F fun G=>some (G,E)) (some ((.bool false),e))) (pBin PP .eql Aa b (.int .i64 4) fun H=>zaa H fun I=>br I (some ((.bool true),e)) (pBin PP .eql Aa b (.int .i64 14) fun J=>zaa J fun K=>br K (zai 1 false (zab a) 1 fun L=>zai 1 false (zab a) 3 fun M=>zad R Aj [g,M] e fun N O=>pBin PP .eql Aa L N fun P=>some (P,O)) (zau (pBin PP .geq Aa b (.int .i64 25) fun Q=>zaa Q fun S=>br S (pBin PP .leq Aa b (.int .i64 29) fun T=>some (.next,[T],e)) (some (.next,[(.bool false)],e))) fun U i c=>zaC U (zaa (i.getD 0 undef) fun V=>br V (zai 1 false (zab a) 1 fun W=>pBin PP .eql Aa W d fun X=>zaa X fun Y=>br Y (zaj .u64 d fun Z=>zad R AV [Z] c fun aa ab=>pBin PP .eql Aa aa (.int .i64 1) fun ac=>some (ac,ab)) (some ((.bool false),c))) (pBin PP .eql Aa b (.int .i64 30) fun ad=>zaa ad fun ae=>br ae (zai 1 false (zab a) 1 fun af=>zai 1 false (zab a) 3 fun ag=>zad R Aj [g,ag] c fun ah ai=>pBin PP .add Aa d ah fun aj=>pBin PP .eql Aa af aj fun ak=>some (ak,ai)) (pBin PP .eql Aa b (.int .i64 31) fun al=>zaa al fun am=>br am (zai 1 false (zab a) 1 fun ao=>pBin PP .geq Aa ao (.int .i64 1) fun ap=>zaa ap fun aq=>br aq (zai 1 false (zab a) 1 fun ar=>pBin PP .leq Aa ar d fun au=>zaa au fun av=>br av (zai 1 false (zab a) 5 fun aw=>zai 1 false (zab a) 1 fun ax=>pBin PP .sub Aa d ax fun ay=>zaj .u64 ay fun az=>pBin PP .leq Ab aw az fun ba=>some (ba,c)) (some ((.bool false),c))) (some ((.bool false),c))) (pBin PP .eql Aa b (.int .i64 32) fun bb=>zaa bb fun bc=>br bc (zai 1 false (zab a) 1 fun bd=>pBin PP .geq Aa bd d fun be=>some (be,c)) (pBin PP .eql Aa b (.int .i64 33) fun bf=>zaa bf fun bg=>br bg (zai 1 false (zab a) 1 fun bh=>pBin PP .geq Aa bh d fun bi=>some (bi,c)) (zai 1 false (zab a) 1 fun bj=>pBin PP .eql Aa bj d fun bk=>some (bk,c))))))) (fun bl=>zav bl 0 (zai 1 false (zab a) 1 fun bm=>pBin PP .eql Aa bm d fun bn=>some (bn,c)) (none)) (some ((i.headD undef),c))))))) (fun bo=>zav bo 0 (zai 1 false (zab a) 1 fun bp=>pBin PP .eql Aa bp d fun bq=>some (bq,e)) (none)) (some ((h.headD undef),e))
noncomputable def zje(R:zag)(d a:Value)(b:Hp):Option (Value×Hp):=zdW PP .eql AG d fun e=>zaa e fun f=>br f (some ((.bool false),b)) (zau (zdW PP .eql Cd a fun g=>zaa g fun h=>br h (none) (some (.next,[],b))) fun i j c=>zaC i (zad R Cr [a] c fun k l=>zaV 3 [.pointer none,.pointer none,.int .u64 0] 0 k fun m=>zai 3 true m 0 fun n=>zad R Cs [n] l fun r s=>zau (none) fun o p q=>zaC o (none) (fun t=>none) (some ((p.headD undef),q))) (fun u=>none) (some ((j.headD undef),c)))
noncomputable def zcM(R:zag)(a:Value)(b:Hp):Option (Value×Hp):=zad R BV [a,(.int .i64 10)] b fun c d=>some (c,d)
noncomputable def zcv(R:zag)(a b:Value)(c:Hp):Option (Value×Hp):=zad R Bn [a,b] c fun d e=>some (d,e)
noncomputable def zek(R:zag)(a b c d:Value)(e:Hp):Option (Value×Hp):=zeP PP orc R BA Go.Proofs.Tryz.f101 [a,b,c,d] e
noncomputable def zgT(R:zag)(a:Value)(b:Hp):Option (Value×Hp):=zeP PP orc R AP Go.Proofs.Tryz.f102 [a] b
noncomputable def ze8(R:zag)(a:Value)(b:Hp):Option (Value×Hp):=zeP PP orc R BC Go.Proofs.Tryz.f103 [a] b
noncomputable def zhP(R:zag)(a:Value)(b:Hp):Option (Value×Hp):=pBin PP .geq Aa a (.int .i64 1) fun c=>zaa c fun d=>br d (pBin PP .leq Aa a (.int .i64 64) fun e=>some (e,b)) (some ((.bool false),b))
noncomputable def zgS(R:zag)(a d:Value)(e:Hp):Option (Value×Hp):=zad R Aq [a] e fun f b=>pUn .not f fun g=>zaa g fun h=>br h (some ((.int .i64 0),b)) (pBin PP .sub Aa (.int .i64 64) a fun i=>zaj .u64 i fun c=>pBin PP .shl Ab d c fun j=>zaj .i64 j fun k=>pBin PP .shr B8 k c fun l=>some (l,b))
noncomputable def zgR(R:zag)(a:Value)(b:Hp):Option (Value×Hp):=pBin PP .geq Aa a (.int .i64 25) fun c=>zaa c fun d=>br d (pBin PP .leq Aa a (.int .i64 29) fun e=>some (e,b)) (some ((.bool false),b))
noncomputable def ze9(R:zag)(a:Value)(b:Hp):Option (Value×Hp):=zad R BK [a] b fun c d=>some (c,d)
noncomputable def zhN(R:zag)(e a b c:Value)(d:Hp):Option (Value×Hp):=pBin PP .eql Aa e (.int .i64 25) fun g=>zaa g fun h=>br h (zaj .u64 c fun i=>pBin PP .shl Ab b i fun j=>zad R Af [a,j] d fun k l=>some (k,l)) (pBin PP .eql Aa e (.int .i64 26) fun m=>zaa m fun n=>br n (zaj .u64 c fun o=>pBin PP .shr Ab b o fun p=>some (p,d)) (pBin PP .eql Aa e (.int .i64 27) fun q=>zaa q fun r=>br r (zad R AQ [a,b] d fun s t=>zaj .u64 c fun u=>pBin PP .shr B8 s u fun v=>zaj .u64 v fun w=>zad R Af [a,w] t fun x y=>some (x,y)) (pBin PP .eql Aa e (.int .i64 29) fun z=>zaa z fun A=>br A (pBin PP .sub Aa a c fun B=>pBin PP .rem Aa B a fun f=>zaj .u64 f fun C=>pBin PP .shl Ab b C fun D=>pBin PP .sub Aa a f fun E=>zaj .u64 E fun F=>pBin PP .shr Ab b F fun G=>pBin PP .or Ab D G fun H=>zad R Af [a,H] d fun I J=>some (I,J)) (zaj .u64 c fun K=>pBin PP .shl Ab b K fun L=>pBin PP .sub Aa a c fun M=>zaj .u64 M fun N=>pBin PP .shr Ab b N fun O=>pBin PP .or Ab L O fun P=>zad R Af [a,P] d fun Q S=>some (Q,S)))))
noncomputable def zbk(R:zag)(a d:Value)(b:Hp):Option (Value×Hp):=pBin PP .eql Aa d (.int .i64 10) fun i=>zaa i fun j=>br j (pBin PP .lss Ab a (.int .u64 100) fun k=>zaa k fun l=>br l (zaj .i64 a fun m=>zad R B0 [m] b fun n o=>some (n,o)) (zcI [.int .u8 0,.int .u8 0,.int .u8 0,.int .u8 0,.int .u8 0,.int .u8 0,.int .u8 0,.int .u8 0,.int .u8 0,.int .u8 0,.int .u8 0,.int .u8 0,.int .u8 0,.int .u8 0,.int .u8 0,.int .u8 0,.int .u8 0,.int .u8 0,.int .u8 0,.int .u8 0,.int .u8 0,.int .u8 0,.int .u8 0,.int .u8 0] b fun e p=>zad R BZ [a] p fun f g=>zck 24 1 e none (some f) g fun q=>zad R A0 [q,a] g fun v c=>zck 24 1 e none (some f) c fun r=>zed r c fun s=>some (s,c))) (zad R Bo [(.slice none 0 0),a,d,(.bool false),(.bool false)] b fun h t=>zaf h 0 fun w=>zaf h 1 fun u=>some (u,t))
noncomputable def zfq(R:zag)(d a:Value)(b:Hp):Option (Value×Hp):=pLen .str a b fun g=>pBin PP .eql Aa g (.int .i64 0) fun h=>zaa h fun i=>br i (zad R Cu [d] b fun j k=>pBin PP .add Aa j (.int .i64 1) fun l=>some (l,k)) (pLen .str a b fun m=>pBin PP .eql Aa m (.int .i64 1) fun n=>zaa n fun o=>br o (zaY a (.int .i64 0) fun p=>zad R AX [d,p] b fun q r=>some (q,r)) (zau (zat (fun c s=>zad R A3 [(c.getD 0 undef),a] s fun f e=>pBin PP .eql Aa f (.int .i64 (-1)) fun t=>zaa t fun u=>br u (some (.ret,[(c.getD 1 undef)],e)) (pBin PP .add Aa (c.getD 1 undef) (.int .i64 1) fun v=>pLen .str a e fun w=>pBin PP .add Aa f w fun x=>za5 (c.getD 0 undef) (some x) none fun y=>some (.next,[y,v],e))) [d,(.int .i64 0)] b) fun z A B=>zaC z none (fun C=>zav C 0 (none) (none)) (some ((A.headD undef),B))))
noncomputable def zfp(R:zag)(a b:Value)(c:Hp):Option (Value×Hp):=zad R B2 [a,b] c fun d e=>some (d,e)
noncomputable def zd0(R:zag)(b c:Value)(d:Hp):Option (Value×Hp):=zad R Bp [b,c] d fun a e=>zaf a 0 fun f=>zaf a 1 fun g=>some ((.tuple #[f,g]),e)
noncomputable def zd1(R:zag)(a b c:Value)(h:Hp):Option (Value×Hp):=zad R AZ [a,b,c] h fun d e=>zaf d 0 fun f=>zaf d 1 fun g=>zdW PP .neq AG g fun i=>zaa i fun j=>br j (zad R A2 [(.string ⟨#[80,97,114,115,101,85,105,110,116]⟩),a,b,c,g] e fun k l=>some ((.tuple #[f,k]),l)) (some ((.tuple #[f,.nilIface]),e))
noncomputable def zel(R:zag)(a:Value)(g:Hp):Option (Value×Hp):=pBin PP .shr Ab a (.int .u64 1) fun h=>pBin PP .and Ab h (.int .u64 6148914691236517205) fun i=>pBin PP .and Ab a (.int .u64 6148914691236517205) fun j=>pBin PP .add Ab i j fun b=>pBin PP .shr Ab b (.int .u64 2) fun k=>pBin PP .and Ab k (.int .u64 3689348814741910323) fun l=>pBin PP .and Ab b (.int .u64 3689348814741910323) fun m=>pBin PP .add Ab l m fun c=>pBin PP .shr Ab c (.int .u64 4) fun n=>pBin PP .add Ab n c fun o=>pBin PP .and Ab o (.int .u64 1085102592571150095) fun d=>pBin PP .shr Ab d (.int .u64 8) fun p=>pBin PP .add Ab d p fun e=>pBin PP .shr Ab e (.int .u64 16) fun q=>pBin PP .add Ab e q fun f=>pBin PP .shr Ab f (.int .u64 32) fun r=>pBin PP .add Ab f r fun s=>zaj .i64 s fun t=>pBin PP .and Aa t (.int .i64 127) fun u=>some (u,g)
noncomputable def zeM(R:zag)(a:Value)(b:Hp):Option (Value×Hp):=pBin PP .lss Aa a (.int .i64 10) fun c=>zaa c fun d=>br d (pBin PP .add Aa a (.int .i64 1) fun e=>za5 (.string ⟨#[48,49,50,51,52,53,54,55,56,57,97,98,99,100,101,102,103,104,105,106,107,108,109,110,111,112,113,114,115,116,117,118,119,120,121,122]⟩) (some a) (some e) fun f=>some (f,b)) (pBin PP .mul Aa a (.int .i64 2) fun g=>pBin PP .mul Aa a (.int .i64 2) fun h=>pBin PP .add Aa h (.int .i64 2) fun i=>za5 (.string ⟨#[48,48,48,49,48,50,48,51,48,52,48,53,48,54,48,55,48,56,48,57,49,48,49,49,49,50,49,51,49,52,49,53,49,54,49,55,49,56,49,57,50,48,50,49,50,50,50,51,50,52,50,53,50,54,50,55,50,56,50,57,51,48,51,49,51,50,51,51,51,52,51,53,51,54,51,55,51,56,51,57,52,48,52,49,52,50,52,51,52,52,52,53,52,54,52,55,52,56,52,57,53,48,53,49,53,50,53,51,53,52,53,53,53,54,53,55,53,56,53,57,54,48,54,49,54,50,54,51,54,52,54,53,54,54,54,55,54,56,54,57,55,48,55,49,55,50,55,51,55,52,55,53,55,54,55,55,55,56,55,57,56,48,56,49,56,50,56,51,56,52,56,53,56,54,56,55,56,56,56,57,57,48,57,49,57,50,57,51,57,52,57,53,57,54,57,55,57,56,57,57]⟩) (some g) (some i) fun j=>some (j,b))
noncomputable def zcd(R:zag)(a:Value)(d:Hp):Option (Value×Hp):=zad R Bb [a] d fun e f=>zad R BY [e] f fun b c=>zcu 20 1 (.pointer (some ⟨AA,0,none⟩)) b fun g=>zal 1 false c g fun h=>pBin PP .geq Ab a h fun i=>zad R BW [i] c fun j k=>pBin PP .add Aa b j fun l=>some (l,k)
noncomputable def zbR(R:zag)(a b:Value)(c:Hp):Option (Value×Hp):=zeP PP orc R A0 Go.Proofs.Tryz.f152 [a,b] c
noncomputable def zb4(R:zag)(a b c d e:Value)(f:Hp):Option (Value×Hp):=zeP PP orc R Bo Go.Proofs.Tryz.f153 [a,b,c,d,e] f
noncomputable def zcc(R:zag)(a f:Value)(l:Hp):Option (Value×Hp):=pLen .str f l fun h=>zau (zau (pBin PP .eql Aa h (.int .i64 0) fun D=>zaa D fun E=>br E (some (.next,[(.bool true)],l)) (pBin PP .eql Ac f a fun F=>some (.next,[F],l))) fun G p b=>zaC G (zaa (p.getD 0 undef) fun H=>br H (some (.ret,[(.int .i64 0)],b)) (pBin PP .eql Aa h (.int .i64 1) fun I=>zaa I fun J=>br J (zaY f (.int .i64 0) fun K=>zad R Bq [a,K] b fun L M=>some (.ret,[L],M)) (pLen .str a b fun N=>pBin PP .geq Aa h N fun O=>zaa O fun P=>br P (some (.ret,[(.int .i64 (-1))],b)) (zal 1 false b (.pointer (some ⟨Ca,0,none⟩)) fun Q=>pBin PP .leq Aa h Q fun S=>zaa S fun T=>br T (pLen .str a b fun U=>pBin PP .leq Aa U (.int .i64 64) fun V=>zaa V fun W=>br W (zad R Cl [a,f] b fun X Y=>some (.ret,[X],Y)) (some (.next,[],b))) (some (.next,[],b)))))) (fun q=>zav q 0 (some (.next,[],b)) (some (.exit q,[],b))) (some (.ret,[(p.headD undef)],b))) fun Z aa m=>zaC Z (zaY f (.int .i64 0) fun r=>zaY f (.int .i64 1) fun ab=>pLen .str a m fun ac=>pBin PP .sub Aa ac h fun ad=>pBin PP .add Aa ad (.int .i64 1) fun n=>zau (zat (fun c o=>pBin PP .lss Aa (c.getD 0 undef) n fun ae=>zaa ae fun af=>br af (zau (zaY a (c.getD 0 undef) fun ag=>pBin PP .neq Ad ag r fun ah=>zaa ah fun ai=>br ai (pBin PP .add Aa (c.getD 0 undef) (.int .i64 1) fun aj=>za5 a (some aj) (some n) fun ak=>zad R Bq [ak,r] o fun s t=>pBin PP .lss Aa s (.int .i64 0) fun al=>zaa al fun am=>br am (some (.ret,[(.int .i64 (-1))],t)) (pBin PP .add Aa s (.int .i64 1) fun ao=>pBin PP .add Aa (c.getD 0 undef) ao fun ap=>some (.next,[ap],t))) (some (.next,[(c.getD 0 undef)],o))) fun aq e j=>zaC aq (zau (pBin PP .add Aa (e.getD 0 undef) (.int .i64 1) fun ar=>zaY a ar fun au=>pBin PP .eql Ad au ab fun av=>zaa av fun aw=>br aw (pBin PP .add Aa (e.getD 0 undef) h fun ax=>za5 a (some (e.getD 0 undef)) (some ax) fun ay=>pBin PP .eql Ac ay f fun az=>zaa az fun ba=>br ba (some (.ret,[(e.getD 0 undef)],j)) (some (.next,[],j))) (some (.next,[],j))) fun bb bc k=>zaC bb (pBin PP .add Aa (e.getD 0 undef) (.int .i64 1) fun d=>pBin PP .add Aa (c.getD 1 undef) (.int .i64 1) fun i=>zau (zal 1 false k (.pointer (some ⟨Ca,0,none⟩)) fun bd=>pBin PP .leq Aa h bd fun be=>zaa be fun bf=>br bf (zad R Cp [d] k fun bg bh=>pBin PP .gtr Aa i bg fun bi=>some (.next,[bi],bh)) (some (.next,[(.bool false)],k))) fun bj u g=>zaC bj (zaa (u.getD 0 undef) fun bk=>br bk (za5 a (some d) none fun bl=>zad R Cl [bl,f] g fun v w=>pBin PP .geq Aa v (.int .i64 0) fun bm=>zaa bm fun bn=>br bn (pBin PP .add Aa v d fun bo=>some (.ret,[bo],w)) (some (.ret,[(.int .i64 (-1))],w))) (zal 1 false g (.pointer (some ⟨Ca,0,none⟩)) fun bp=>pBin PP .gtr Aa h bp fun bq=>zaa bq fun bs=>br bs (pBin PP .shr Aa d (.int .u64 4) fun bt=>pBin PP .add Aa (.int .i64 4) bt fun bu=>pBin PP .geq Aa i bu fun bv=>zaa bv fun bw=>br bw (pBin PP .lss Aa d n fun bx=>zaa bx fun bz=>br bz (za5 a (some d) none fun ca=>zad R Cq [ca,f] g fun x y=>pBin PP .lss Aa x (.int .i64 0) fun cb=>zaa cb fun cc=>br cc (some (.ret,[(.int .i64 (-1))],y)) (pBin PP .add Aa d x fun cd=>some (.ret,[cd],y))) (some (.next,[d,i],g))) (some (.next,[d,i],g))) (some (.next,[d,i],g)))) (fun z=>zav z 2 (some (.next,[d,i],g)) (some (.exit z,[d,i],g))) (some (.ret,[(u.headD undef)],g))) (fun A=>zav A 2 (some (.next,[(e.getD 0 undef),(c.getD 1 undef)],k)) (some (.exit A,[(e.getD 0 undef),(c.getD 1 undef)],k))) (some (.ret,[(bc.headD undef)],k))) (fun B=>zav B 2 (some (.next,[(e.getD 0 undef),(c.getD 1 undef)],j)) (some (.exit B,[(e.getD 0 undef),(c.getD 1 undef)],j))) (some (.ret,[(e.headD undef)],j))) (some (.exit 1,[(c.getD 0 undef),(c.getD 1 undef)],o))) [(.int .i64 0),(.int .i64 0)] m) fun ce cf C=>zaC ce none (fun cg=>zav cg 1 (some ((.int .i64 (-1)),C)) (none)) (some ((cf.headD undef),C))) (fun ch=>none) (some ((aa.headD undef),m))
noncomputable def zbI(R:zag)(a c:Value)(d:Hp):Option (Value×Hp):=zad R B1 [a,c] d fun e b=>pUn .not e fun f=>zaa f fun g=>br g (some ((.tuple #[a,(.bool false)]),b)) (pLen .str c b fun h=>za5 a (some h) none fun i=>some ((.tuple #[i,(.bool true)]),b))
noncomputable def zcf(R:zag)(a b c:Value)(d:Hp):Option (Value×Hp):=zeP PP orc R AZ Go.Proofs.Tryz.f160 [a,b,c] d
noncomputable def zce(R:zag)(a:Value)(b:Hp):Option (Value×Hp):=pBin PP .mul Aa a (.int .i64 78913) fun c=>pBin PP .shr Aa c (.int .u64 18) fun d=>some (d,b)
noncomputable def zhQ(R:zag)(c:Value)(e:Hp):Option (Value×Hp):=zau (pBin PP .geq Ab c (.int .u64 4294967296) fun g=>zaa g fun h=>br h (pBin PP .shr Ab c (.int .u64 32) fun i=>some (.next,[i,(.int .i64 32)],e)) (some (.next,[c,(.int .i64 0)],e))) fun j a b=>zaC j (pBin PP .geq Ab (a.getD 0 undef) (.int .u64 65536) fun k=>zaa k fun l=>br l (pBin PP .shr Ab (a.getD 0 undef) (.int .u64 16) fun d=>pBin PP .add Aa (a.getD 1 undef) (.int .i64 16) fun f=>pBin PP .geq Ab d (.int .u64 256) fun m=>zaa m fun n=>br n (pBin PP .shr Ab d (.int .u64 8) fun o=>pBin PP .add Aa f (.int .i64 8) fun p=>zaj .u8 o fun q=>zaY (.string ⟨#[0,1,2,2,3,3,3,3,4,4,4,4,4,4,4,4,5,5,5,5,5,5,5,5,5,5,5,5,5,5,5,5,6,6,6,6,6,6,6,6,6,6,6,6,6,6,6,6,6,6,6,6,6,6,6,6,6,6,6,6,6,6,6,6,7,7,7,7,7,7,7,7,7,7,7,7,7,7,7,7,7,7,7,7,7,7,7,7,7,7,7,7,7,7,7,7,7,7,7,7,7,7,7,7,7,7,7,7,7,7,7,7,7,7,7,7,7,7,7,7,7,7,7,7,7,7,7,7,8,8,8,8,8,8,8,8,8,8,8,8,8,8,8,8,8,8,8,8,8,8,8,8,8,8,8,8,8,8,8,8,8,8,8,8,8,8,8,8,8,8,8,8,8,8,8,8,8,8,8,8,8,8,8,8,8,8,8,8,8,8,8,8,8,8,8,8,8,8,8,8,8,8,8,8,8,8,8,8,8,8,8,8,8,8,8,8,8,8,8,8,8,8,8,8,8,8,8,8,8,8,8,8,8,8,8,8,8,8,8,8,8,8,8,8,8,8,8,8,8,8,8,8,8,8,8,8]⟩) q fun r=>zaj .i64 r fun s=>pBin PP .add Aa p s fun t=>some (t,b)) (zaj .u8 d fun u=>zaY (.string ⟨#[0,1,2,2,3,3,3,3,4,4,4,4,4,4,4,4,5,5,5,5,5,5,5,5,5,5,5,5,5,5,5,5,6,6,6,6,6,6,6,6,6,6,6,6,6,6,6,6,6,6,6,6,6,6,6,6,6,6,6,6,6,6,6,6,7,7,7,7,7,7,7,7,7,7,7,7,7,7,7,7,7,7,7,7,7,7,7,7,7,7,7,7,7,7,7,7,7,7,7,7,7,7,7,7,7,7,7,7,7,7,7,7,7,7,7,7,7,7,7,7,7,7,7,7,7,7,7,7,8,8,8,8,8,8,8,8,8,8,8,8,8,8,8,8,8,8,8,8,8,8,8,8,8,8,8,8,8,8,8,8,8,8,8,8,8,8,8,8,8,8,8,8,8,8,8,8,8,8,8,8,8,8,8,8,8,8,8,8,8,8,8,8,8,8,8,8,8,8,8,8,8,8,8,8,8,8,8,8,8,8,8,8,8,8,8,8,8,8,8,8,8,8,8,8,8,8,8,8,8,8,8,8,8,8,8,8,8,8,8,8,8,8,8,8,8,8,8,8,8,8,8,8,8,8,8,8]⟩) u fun v=>zaj .i64 v fun w=>pBin PP .add Aa f w fun x=>some (x,b))) (pBin PP .geq Ab (a.getD 0 undef) (.int .u64 256) fun y=>zaa y fun z=>br z (pBin PP .shr Ab (a.getD 0 undef) (.int .u64 8) fun A=>pBin PP .add Aa (a.getD 1 undef) (.int .i64 8) fun B=>zaj .u8 A fun C=>zaY (.string ⟨#[0,1,2,2,3,3,3,3,4,4,4,4,4,4,4,4,5,5,5,5,5,5,5,5,5,5,5,5,5,5,5,5,6,6,6,6,6,6,6,6,6,6,6,6,6,6,6,6,6,6,6,6,6,6,6,6,6,6,6,6,6,6,6,6,7,7,7,7,7,7,7,7,7,7,7,7,7,7,7,7,7,7,7,7,7,7,7,7,7,7,7,7,7,7,7,7,7,7,7,7,7,7,7,7,7,7,7,7,7,7,7,7,7,7,7,7,7,7,7,7,7,7,7,7,7,7,7,7,8,8,8,8,8,8,8,8,8,8,8,8,8,8,8,8,8,8,8,8,8,8,8,8,8,8,8,8,8,8,8,8,8,8,8,8,8,8,8,8,8,8,8,8,8,8,8,8,8,8,8,8,8,8,8,8,8,8,8,8,8,8,8,8,8,8,8,8,8,8,8,8,8,8,8,8,8,8,8,8,8,8,8,8,8,8,8,8,8,8,8,8,8,8,8,8,8,8,8,8,8,8,8,8,8,8,8,8,8,8,8,8,8,8,8,8,8,8,8,8,8,8,8,8,8,8,8,8]⟩) C fun D=>zaj .i64 D fun E=>pBin PP .add Aa B E fun F=>some (F,b)) (zaj .u8 (a.getD 0 undef) fun G=>zaY (.string ⟨#[0,1,2,2,3,3,3,3,4,4,4,4,4,4,4,4,5,5,5,5,5,5,5,5,5,5,5,5,5,5,5,5,6,6,6,6,6,6,6,6,6,6,6,6,6,6,6,6,6,6,6,6,6,6,6,6,6,6,6,6,6,6,6,6,7,7,7,7,7,7,7,7,7,7,7,7,7,7,7,7,7,7,7,7,7,7,7,7,7,7,7,7,7,7,7,7,7,7,7,7,7,7,7,7,7,7,7,7,7,7,7,7,7,7,7,7,7,7,7,7,7,7,7,7,7,7,7,7,8,8,8,8,8,8,8,8,8,8,8,8,8,8,8,8,8,8,8,8,8,8,8,8,8,8,8,8,8,8,8,8,8,8,8,8,8,8,8,8,8,8,8,8,8,8,8,8,8,8,8,8,8,8,8,8,8,8,8,8,8,8,8,8,8,8,8,8,8,8,8,8,8,8,8,8,8,8,8,8,8,8,8,8,8,8,8,8,8,8,8,8,8,8,8,8,8,8,8,8,8,8,8,8,8,8,8,8,8,8,8,8,8,8,8,8,8,8,8,8,8,8,8,8,8,8,8,8]⟩) G fun H=>zaj .i64 H fun I=>pBin PP .add Aa (a.getD 1 undef) I fun J=>some (J,b)))) (fun K=>none) (some ((a.headD undef),b))
noncomputable def zdJ(R:zag)(b:Value)(a:Hp):Option (Value×Hp):=zaa b fun c=>br c (some ((.int .i64 1),a)) (some ((.int .i64 0),a))
noncomputable def zc6(R:zag)(a:Value)(b:Hp):Option (Value×Hp):=pBin PP .sub Aa a (.int .i64 1) fun c=>pBin PP .and Aa a c fun d=>pBin PP .eql Aa d (.int .i64 0) fun e=>some (e,b)
noncomputable def zdA(R:zag)(a:Value)(b:Hp):Option (Value×Hp):=zad R BN [a] b fun c d=>some (c,d)
noncomputable def zbG(R:zag)(a b:Value)(c:Hp):Option (Value×Hp):=zad R AY [a,b] c fun d e=>some (d,e)
noncomputable def zbH(R:zag)(c b:Value)(a:Hp):Option (Value×Hp):=pLen .str c a fun d=>pLen .str b a fun e=>pBin PP .geq Aa d e fun f=>zaa f fun g=>br g (pLen .str b a fun h=>za5 c none (some h) fun i=>pBin PP .eql Ac i b fun j=>some (j,a)) (some ((.bool false),a))
noncomputable def zcC(R:zag)(a:Value)(b:Hp):Option (Value×Hp):=pBin PP .or Ad a (.int .u8 32) fun c=>some (c,b)
noncomputable def zcV(R:zag)(a:Value)(b:Hp):Option (Value×Hp):=pBin PP .eql Ab a (.int .u64 0) fun c=>zaa c fun d=>br d (some ((.int .i64 64),b)) (pUn .neg a fun e=>pBin PP .and Ab a e fun f=>pBin PP .mul Ab f (.int .u64 285870213051353865) fun g=>pBin PP .shr Ab g (.int .u64 58) fun h=>zcu 64 1 (.pointer (some ⟨AJ,0,none⟩)) h fun i=>zal 1 false b i fun j=>zaj .i64 j fun k=>some (k,b))
theorem zdp(E:ET)(h:E Cb=none)(a b:Value)(c:Hp):run PP orc E Cb [a,b] c=zb5 (run PP orc E) a b c:=by refine(zar Proofs.Tryz.func10 ?_ ?_ h _ _).trans ?_<;>kernel_rfl
theorem zgd(E:ET)(h:E BP=none)(a:Hp):run PP orc E BP [] a=zd3 (run PP orc E)  a:=by refine(zar Proofs.Tryz.func12 ?_ ?_ h _ _).trans ?_<;>kernel_rfl
theorem zll(E:ET)(h:E AD=none)(a b c:Value)(d:Hp):run PP orc E AD [a,b,c] d=zgQ (run PP orc E) a b c d:=by refine(zar Proofs.Tryz.func13 ?_ ?_ h _ _).trans ?_<;>kernel_rfl
theorem zhn(E:ET)(h:E Am=none)(a:Value)(b:Hp):run PP orc E Am [a] b=zhr (run PP orc E) a b:=by refine(zar Proofs.Tryz.func15 ?_ ?_ h _ _).trans ?_<;>kernel_rfl
theorem zeD(E:ET)(h:E AR=none)(a b:Value)(c:Hp):run PP orc E AR [a,b] c=zcD (run PP orc E) a b c:=by refine(zar Proofs.Tryz.func16 ?_ ?_ h _ _).trans ?_<;>kernel_rfl
theorem zmp(E:ET)(h:E Bi=none)(a b c:Value)(d:Hp):run PP orc E Bi [a,b,c] d=zhL (run PP orc E) a b c d:=by refine(zar Proofs.Tryz.func18 ?_ ?_ h _ _).trans ?_<;>kernel_rfl
theorem zgc(E:ET)(h:E Bh=none)(a:Value)(b:Hp):run PP orc E Bh [a] b=zd2 (run PP orc E) a b:=by refine(zar Proofs.Tryz.func19 ?_ ?_ h _ _).trans ?_<;>kernel_rfl
theorem znG(E:ET)(h:E Bj=none)(a b:Value)(c:Hp):run PP orc E Bj [a,b] c=zjc (run PP orc E) a b c:=by refine(zar Proofs.Tryz.func20 ?_ ?_ h _ _).trans ?_<;>kernel_rfl
theorem zfK(E:ET)(h:E Bg=none)(a b:Value)(c:Hp):run PP orc E Bg [a,b] c=zdz (run PP orc E) a b c:=by refine(zar Proofs.Tryz.func21 ?_ ?_ h _ _).trans ?_<;>kernel_rfl
theorem znH(E:ET)(h:E AW=none)(a b:Value)(c:Hp):run PP orc E AW [a,b] c=zjd (run PP orc E) a b c:=by refine(zar Proofs.Tryz.func24 ?_ ?_ h _ _).trans ?_<;>kernel_rfl
theorem zpW(E:ET)(h:E AU=none)(a:Value)(b:Hp):run PP orc E AU [a] b=zkA (run PP orc E) a b:=by refine(zar Proofs.Tryz.func26 ?_ ?_ h _ _).trans ?_<;>kernel_rfl
theorem zhk(E:ET)(h:E Av=none)(a b:Value)(c:Hp):run PP orc E Av [a,b] c=zeJ (run PP orc E) a b c:=by refine(zar Proofs.Tryz.func31 ?_ ?_ h _ _).trans ?_<;>kernel_rfl
theorem zmq(E:ET)(h:E BR=none)(a b c:Value)(d:Hp):run PP orc E BR [a,b,c] d=zhM (run PP orc E) a b c d:=by refine(zar Proofs.Tryz.func33 ?_ ?_ h _ _).trans ?_<;>kernel_rfl
theorem zhm(E:ET)(h:E A4=none)(a b:Value)(c:Hp):run PP orc E A4 [a,b] c=zeL (run PP orc E) a b c:=by refine(zar Proofs.Tryz.func34 ?_ ?_ h _ _).trans ?_<;>kernel_rfl
theorem znC(E:ET)(h:E AT=none)(a b:Value)(c:Hp):run PP orc E AT [a,b] c=zi8 (run PP orc E) a b c:=by refine(zar Proofs.Tryz.func35 ?_ ?_ h _ _).trans ?_<;>kernel_rfl
theorem zeb(E:ET)(h:E Aw=none)(a b:Value)(c:Hp):run PP orc E Aw [a,b] c=zej (run PP orc E) a b c:=by refine(zar Proofs.Tryz.func38 ?_ ?_ h _ _).trans ?_<;>kernel_rfl
theorem znD(E:ET)(h:E Bm=none)(a:Value)(b:Hp):run PP orc E Bm [a] b=zi9 (run PP orc E) a b:=by refine(zar Proofs.Tryz.func39 ?_ ?_ h _ _).trans ?_<;>kernel_rfl
theorem znF(E:ET)(h:E BS=none)(a b c d e f:Value)(g:Hp):run PP orc E BS [a,b,c,d,e,f] g=zjb (run PP orc E) a b c d e f g:=by refine(zar Proofs.Tryz.func40 ?_ ?_ h _ _).trans ?_<;>kernel_rfl
theorem znE(E:ET)(h:E BU=none)(a b:Value)(c:Hp):run PP orc E BU [a,b] c=zja (run PP orc E) a b c:=by refine(zar Proofs.Tryz.func47 ?_ ?_ h _ _).trans ?_<;>kernel_rfl
theorem zhl(E:ET)(h:E Au=none)(a b:Value)(c:Hp):run PP orc E Au [a,b] c=zeK (run PP orc E) a b c:=by refine(zar Proofs.Tryz.func48 ?_ ?_ h _ _).trans ?_<;>kernel_rfl
theorem zjU(E:ET)(h:E Aj=none)(a b:Value)(c:Hp):run PP orc E Aj [a,b] c=zfU (run PP orc E) a b c:=by refine(zar Proofs.Tryz.func49 ?_ ?_ h _ _).trans ?_<;>kernel_rfl
theorem ziJ(E:ET)(h:E AL=none)(a b:Value)(c:Hp):run PP orc E AL [a,b] c=zfn (run PP orc E) a b c:=by refine(zar Proofs.Tryz.func50 ?_ ?_ h _ _).trans ?_<;>kernel_rfl
theorem zlj(E:ET)(h:E Bl=none)(a b c d e:Value)(f:Hp):run PP orc E Bl [a,b,c,d,e] f=zgO (run PP orc E) a b c d e f:=by refine(zar Proofs.Tryz.func52 ?_ ?_ h _ _).trans ?_<;>kernel_rfl
theorem zlk(E:ET)(h:E BT=none)(a:Value)(b:Hp):run PP orc E BT [a] b=zgP (run PP orc E) a b:=by refine(zar Proofs.Tryz.func54 ?_ ?_ h _ _).trans ?_<;>kernel_rfl
theorem znL(E:ET)(h:E Bc=none)(a:Value)(b:Hp):run PP orc E Bc [a] b=zjh (run PP orc E) a b:=by refine(zar Proofs.Tryz.func55 ?_ ?_ h _ _).trans ?_<;>kernel_rfl
theorem zjW(E:ET)(h:E AS=none)(a:Value)(b:Hp):run PP orc E AS [a] b=zjZ (run PP orc E) a b:=by refine(zar Proofs.Tryz.func56 ?_ ?_ h _ _).trans ?_<;>kernel_rfl
theorem zf9(E:ET)(h:E At=none)(a b:Value)(c:Hp):run PP orc E At [a,b] c=zdZ (run PP orc E) a b c:=by refine(zar Proofs.Tryz.func57 ?_ ?_ h _ _).trans ?_<;>kernel_rfl
theorem zdn(E:ET)(h:E AE=none)(a b:Value)(c:Hp):run PP orc E AE [a,b] c=zb3 (run PP orc E) a b c:=by refine(zar Proofs.Tryz.func58 ?_ ?_ h _ _).trans ?_<;>kernel_rfl
theorem zjV(E:ET)(h:E Br=none)(a:Value)(b:Hp):run PP orc E Br [a] b=zfV (run PP orc E) a b:=by refine(zar Proofs.Tryz.func59 ?_ ?_ h _ _).trans ?_<;>kernel_rfl
theorem zmo(E:ET)(h:E A5=none)(a:Hp):run PP orc E A5 [] a=zhK (run PP orc E)  a:=by refine(zar Proofs.Tryz.func60 ?_ ?_ h _ _).trans ?_<;>kernel_rfl
theorem znK(E:ET)(h:E Bd=none)(a:Value)(b:Hp):run PP orc E Bd [a] b=zjg (run PP orc E) a b:=by refine(zar Proofs.Tryz.func61 ?_ ?_ h _ _).trans ?_<;>kernel_rfl
theorem zmn(E:ET)(h:E Ax=none)(a:Value)(b:Hp):run PP orc E Ax [a] b=zhJ (run PP orc E) a b:=by refine(zar Proofs.Tryz.func62 ?_ ?_ h _ _).trans ?_<;>kernel_rfl
theorem zdV(E:ET)(h:E Ay=none)(a b:Value)(c:Hp):run PP orc E Ay [a,b] c=zcl (run PP orc E) a b c:=by refine(zar Proofs.Tryz.func63 ?_ ?_ h _ _).trans ?_<;>kernel_rfl
theorem ziK(E:ET)(h:E Bz=none)(a b:Value)(c:Hp):run PP orc E Bz [a,b] c=zfo (run PP orc E) a b c:=by refine(zar Proofs.Tryz.func65 ?_ ?_ h _ _).trans ?_<;>kernel_rfl
theorem zfJ(E:ET)(h:E AK=none)(a b:Value)(c:Hp):run PP orc E AK [a,b] c=zdy (run PP orc E) a b c:=by refine(zar Proofs.Tryz.func67 ?_ ?_ h _ _).trans ?_<;>kernel_rfl
theorem zli(E:ET)(h:E AF=none)(a:Value)(b:Hp):run PP orc E AF [a] b=zgN (run PP orc E) a b:=by refine(zar Proofs.Tryz.func68 ?_ ?_ h _ _).trans ?_<;>kernel_rfl
theorem zea(E:ET)(h:E Ap=none)(a:Value)(b:Hp):run PP orc E Ap [a] b=zcK (run PP orc E) a b:=by refine(zar Proofs.Tryz.func69 ?_ ?_ h _ _).trans ?_<;>kernel_rfl
theorem zgE(E:ET)(h:E BD=none)(a:Value)(b:Hp):run PP orc E BD [a] b=zeh (run PP orc E) a b:=by refine(zar Proofs.Tryz.func70 ?_ ?_ h _ _).trans ?_<;>kernel_rfl
theorem zfI(E:ET)(h:E An=none)(a:Value)(b:Hp):run PP orc E An [a] b=zdx (run PP orc E) a b:=by refine(zar Proofs.Tryz.func71 ?_ ?_ h _ _).trans ?_<;>kernel_rfl
theorem zgF(E:ET)(h:E AN=none)(a:Value)(b:Hp):run PP orc E AN [a] b=zei (run PP orc E) a b:=by refine(zar Proofs.Tryz.func72 ?_ ?_ h _ _).trans ?_<;>kernel_rfl
theorem znJ(E:ET)(h:E Af=none)(a b:Value)(c:Hp):run PP orc E Af [a,b] c=zjf (run PP orc E) a b c:=by refine(zar Proofs.Tryz.func80 ?_ ?_ h _ _).trans ?_<;>kernel_rfl
theorem zpX(E:ET)(h:E Bk=none)(a:Value)(b:Hp):run PP orc E Bk [a] b=zkB (run PP orc E) a b:=by refine(zar Proofs.Tryz.func81 ?_ ?_ h _ _).trans ?_<;>kernel_rfl
theorem zpZ(E:ET)(h:E BH=none)(a b c d:Value)(e:Hp):run PP orc E BH [a,b,c,d] e=zkD (run PP orc E) a b c d e:=by refine(zar Proofs.Tryz.func82 ?_ ?_ h _ _).trans ?_<;>kernel_rfl
theorem r_bits_Un(E:ET)(h:E BO=none)(a b c:Value)(d:Hp):run PP orc E BO [a,b,c] d=zmO (run PP orc E) a b c d:=by refine(zar Proofs.Tryz.func83 ?_ ?_ h _ _).trans ?_<;>kernel_rfl
theorem zp1(E:ET)(h:E BE=none)(a b c d:Value)(e:Hp):run PP orc E BE [a,b,c,d] e=zkF (run PP orc E) a b c d e:=by refine(zar Proofs.Tryz.func84 ?_ ?_ h _ _).trans ?_<;>kernel_rfl
theorem zp0(E:ET)(h:E BG=none)(a b c d:Value)(e:Hp):run PP orc E BG [a,b,c,d] e=zkE (run PP orc E) a b c d e:=by refine(zar Proofs.Tryz.func85 ?_ ?_ h _ _).trans ?_<;>kernel_rfl
theorem zms(E:ET)(h:E BL=none)(a b c d:Value)(e:Hp):run PP orc E BL [a,b,c,d] e=zhO (run PP orc E) a b c d e:=by refine(zar Proofs.Tryz.func86 ?_ ?_ h _ _).trans ?_<;>kernel_rfl
theorem zpY(E:ET)(h:E BJ=none)(a b c d:Value)(e:Hp):run PP orc E BJ [a,b,c,d] e=zkC (run PP orc E) a b c d e:=by refine(zar Proofs.Tryz.func87 ?_ ?_ h _ _).trans ?_<;>kernel_rfl
theorem zmm(E:ET)(h:E B6=none)(a:Value)(b:Hp):run PP orc E B6 [a] b=zhI (run PP orc E) a b:=by refine(zar Proofs.Tryz.func93 ?_ ?_ h _ _).trans ?_<;>kernel_rfl
theorem zf8(E:ET)(h:E B4=none)(a b:Value)(c:Hp):run PP orc E B4 [a,b] c=zdY (run PP orc E) a b c:=by refine(zar Proofs.Tryz.func94 ?_ ?_ h _ _).trans ?_<;>kernel_rfl
theorem zhj(E:ET)(h:E B5=none)(a b:Value)(c:Hp):run PP orc E B5 [a,b] c=zeI (run PP orc E) a b c:=by refine(zar Proofs.Tryz.func95 ?_ ?_ h _ _).trans ?_<;>kernel_rfl
theorem znI(E:ET)(h:E BQ=none)(a b:Value)(c:Hp):run PP orc E BQ [a,b] c=zje (run PP orc E) a b c:=by refine(zar Proofs.Tryz.func96 ?_ ?_ h _ _).trans ?_<;>kernel_rfl
theorem zeU(E:ET)(h:E Cc=none)(a:Value)(b:Hp):run PP orc E Cc [a] b=zcM (run PP orc E) a b:=by refine(zar Proofs.Tryz.func98 ?_ ?_ h _ _).trans ?_<;>kernel_rfl
theorem zdv(E:ET)(h:E A1=none)(a b:Value)(c:Hp):run PP orc E A1 [a,b] c=zcv (run PP orc E) a b c:=by refine(zar Proofs.Tryz.func100 ?_ ?_ h _ _).trans ?_<;>kernel_rfl
theorem zgG(E:ET)(h:E BA=none)(a b c d:Value)(e:Hp):run PP orc E BA [a,b,c,d] e=zek (run PP orc E) a b c d e:=by refine(zar Proofs.Tryz.func101 ?_ ?_ h _ _).trans ?_<;>kernel_rfl
theorem zlo(E:ET)(h:E AP=none)(a:Value)(b:Hp):run PP orc E AP [a] b=zgT (run PP orc E) a b:=by refine(zar Proofs.Tryz.func102 ?_ ?_ h _ _).trans ?_<;>kernel_rfl
theorem zh0(E:ET)(h:E BC=none)(a:Value)(b:Hp):run PP orc E BC [a] b=ze8 (run PP orc E) a b:=by refine(zar Proofs.Tryz.func103 ?_ ?_ h _ _).trans ?_<;>kernel_rfl
theorem zmt(E:ET)(h:E Aq=none)(a:Value)(b:Hp):run PP orc E Aq [a] b=zhP (run PP orc E) a b:=by refine(zar Proofs.Tryz.func114 ?_ ?_ h _ _).trans ?_<;>kernel_rfl
theorem zln(E:ET)(h:E AQ=none)(a b:Value)(c:Hp):run PP orc E AQ [a,b] c=zgS (run PP orc E) a b c:=by refine(zar Proofs.Tryz.func115 ?_ ?_ h _ _).trans ?_<;>kernel_rfl
theorem zlm(E:ET)(h:E Bf=none)(a:Value)(b:Hp):run PP orc E Bf [a] b=zgR (run PP orc E) a b:=by refine(zar Proofs.Tryz.func116 ?_ ?_ h _ _).trans ?_<;>kernel_rfl
theorem zh1(E:ET)(h:E AV=none)(a:Value)(b:Hp):run PP orc E AV [a] b=ze9 (run PP orc E) a b:=by refine(zar Proofs.Tryz.func117 ?_ ?_ h _ _).trans ?_<;>kernel_rfl
theorem zmr(E:ET)(h:E Be=none)(a b c d:Value)(e:Hp):run PP orc E Be [a,b,c,d] e=zhN (run PP orc E) a b c d e:=by refine(zar Proofs.Tryz.func118 ?_ ?_ h _ _).trans ?_<;>kernel_rfl
theorem zb1(E:ET)(h:E Bn=none)(a b:Value)(c:Hp):run PP orc E Bn [a,b] c=zbk (run PP orc E) a b c:=by refine(zar Proofs.Tryz.func133 ?_ ?_ h _ _).trans ?_<;>kernel_rfl
theorem ziM(E:ET)(h:E Bw=none)(a b:Value)(c:Hp):run PP orc E Bw [a,b] c=zfq (run PP orc E) a b c:=by refine(zar Proofs.Tryz.func135 ?_ ?_ h _ _).trans ?_<;>kernel_rfl
theorem ziL(E:ET)(h:E A3=none)(a b:Value)(c:Hp):run PP orc E A3 [a,b] c=zfp (run PP orc E) a b c:=by refine(zar Proofs.Tryz.func136 ?_ ?_ h _ _).trans ?_<;>kernel_rfl
theorem zga(E:ET)(h:E B3=none)(a b:Value)(c:Hp):run PP orc E B3 [a,b] c=zd0 (run PP orc E) a b c:=by refine(zar Proofs.Tryz.func137 ?_ ?_ h _ _).trans ?_<;>kernel_rfl
theorem zgb(E:ET)(h:E Bs=none)(a b c:Value)(d:Hp):run PP orc E Bs [a,b,c] d=zd1 (run PP orc E) a b c d:=by refine(zar Proofs.Tryz.func138 ?_ ?_ h _ _).trans ?_<;>kernel_rfl
theorem zgH(E:ET)(h:E BK=none)(a:Value)(b:Hp):run PP orc E BK [a] b=zel (run PP orc E) a b:=by refine(zar Proofs.Tryz.func143 ?_ ?_ h _ _).trans ?_<;>kernel_rfl
theorem zeB(E:ET)(h:E B0=none)(a:Value)(b:Hp):run PP orc E B0 [a] b=zeM (run PP orc E) a b:=by refine(zar Proofs.Tryz.func150 ?_ ?_ h _ _).trans ?_<;>kernel_rfl
theorem zdE(E:ET)(h:E BZ=none)(a:Value)(b:Hp):run PP orc E BZ [a] b=zcd (run PP orc E) a b:=by refine(zar Proofs.Tryz.func151 ?_ ?_ h _ _).trans ?_<;>kernel_rfl
theorem zc5(E:ET)(h:E A0=none)(a b:Value)(c:Hp):run PP orc E A0 [a,b] c=zbR (run PP orc E) a b c:=by refine(zar Proofs.Tryz.func152 ?_ ?_ h _ _).trans ?_<;>kernel_rfl
theorem zdo(E:ET)(h:E Bo=none)(a b c d e:Value)(f:Hp):run PP orc E Bo [a,b,c,d,e] f=zb4 (run PP orc E) a b c d e f:=by refine(zar Proofs.Tryz.func153 ?_ ?_ h _ _).trans ?_<;>kernel_rfl
theorem zdD(E:ET)(h:E B2=none)(a b:Value)(c:Hp):run PP orc E B2 [a,b] c=zcc (run PP orc E) a b c:=by refine(zar Proofs.Tryz.func158 ?_ ?_ h _ _).trans ?_<;>kernel_rfl
theorem zcT(E:ET)(h:E Bp=none)(a b:Value)(c:Hp):run PP orc E Bp [a,b] c=zbI (run PP orc E) a b c:=by refine(zar Proofs.Tryz.func159 ?_ ?_ h _ _).trans ?_<;>kernel_rfl
theorem zcb(E:ET)(h:E AZ=none)(a b c:Value)(d:Hp):run PP orc E AZ [a,b,c] d=zcf (run PP orc E) a b c d:=by refine(zar Proofs.Tryz.func160 ?_ ?_ h _ _).trans ?_<;>kernel_rfl
theorem zdF(E:ET)(h:E BY=none)(a:Value)(b:Hp):run PP orc E BY [a] b=zce (run PP orc E) a b:=by refine(zar Proofs.Tryz.func163 ?_ ?_ h _ _).trans ?_<;>kernel_rfl
theorem zmu(E:ET)(h:E Bb=none)(a:Value)(b:Hp):run PP orc E Bb [a] b=zhQ (run PP orc E) a b:=by refine(zar Proofs.Tryz.func164 ?_ ?_ h _ _).trans ?_<;>kernel_rfl
theorem zdG(E:ET)(h:E BW=none)(a:Value)(b:Hp):run PP orc E BW [a] b=zdJ (run PP orc E) a b:=by refine(zar Proofs.Tryz.func165 ?_ ?_ h _ _).trans ?_<;>kernel_rfl
theorem zc4(E:ET)(h:E BX=none)(a:Value)(b:Hp):run PP orc E BX [a] b=zc6 (run PP orc E) a b:=by refine(zar Proofs.Tryz.func166 ?_ ?_ h _ _).trans ?_<;>kernel_rfl
theorem zfL(E:ET)(h:E BM=none)(a:Value)(b:Hp):run PP orc E BM [a] b=zdA (run PP orc E) a b:=by refine(zar Proofs.Tryz.func167 ?_ ?_ h _ _).trans ?_<;>kernel_rfl
theorem zcR(E:ET)(h:E Bq=none)(a b:Value)(c:Hp):run PP orc E Bq [a,b] c=zbG (run PP orc E) a b c:=by refine(zar Proofs.Tryz.func171 ?_ ?_ h _ _).trans ?_<;>kernel_rfl
theorem zcS(E:ET)(h:E B1=none)(a b:Value)(c:Hp):run PP orc E B1 [a,b] c=zbH (run PP orc E) a b c:=by refine(zar Proofs.Tryz.func175 ?_ ?_ h _ _).trans ?_<;>kernel_rfl
theorem zeC(E:ET)(h:E Ar=none)(a:Value)(b:Hp):run PP orc E Ar [a] b=zcC (run PP orc E) a b:=by refine(zar Proofs.Tryz.func176 ?_ ?_ h _ _).trans ?_<;>kernel_rfl
theorem zfa(E:ET)(h:E BN=none)(a:Value)(b:Hp):run PP orc E BN [a] b=zcV (run PP orc E) a b:=by refine(zar Proofs.Tryz.func183 ?_ ?_ h _ _).trans ?_<;>kernel_rfl
end Go.AM
namespace Go.AM
open List Go
def ccB(i:Nat)(H:Hp):Option AObj→Option (Value×Hp)
 |some (.cells [.pointer none,v] true)=>if H.ty i=some As then some (.tuple #[],H.set i (some (.cells [.pointer (some ⟨i,0,none⟩),v] true))) else none
 |some (.cells [.pointer (some ⟨j,0,none⟩),v] true)=>if j=i∧H.ty i=some As then some (.tuple #[],H) else none
 |_=>none
def extCC(l:List Value)(H:Hp):Option (Value×Hp):=
 match l with
 |[.pointer (some ⟨i,0,none⟩)]=>ccB i H (H.get i)
 |_=>none
def zjE:List Value→Option (List UInt8)
 |[]=>some []
 |.int .u8 (.ofNat n)::r=>if n<256 then (match zjE r with
  |some l=>some (UInt8.ofNat n::l)
  |none=>none) else none
 |_=>none
def strB2(i j n:Nat)(H:Hp):Option AObj→Option (Value×Hp)
 |some (.cells cs true)=>if H.ty i=some As∧H.ty j=some Ad∧0<n∧n≤cs.length∧n≤2^60 then (match zjE (cs.take n) with
  |some l=>some (.string ⟨l.toArray⟩,H.set j (some (.cells cs false)))
  |none=>none) else none
 |_=>none
def strB(i:Nat)(H:Hp):Option AObj→Option (Value×Hp)
 |some (.cells [_,.slice none 0 0] _)=>if H.ty i=some As then some (.string ⟨#[]⟩,H) else none
 |some (.cells [_,.slice (some ⟨j,0,some 1⟩) n c] _)=>strB2 i j n H (H.get j)
 |_=>none
def zpw(l:List Value)(H:Hp):Option (Value×Hp):=
 match l with
 |[.pointer (some ⟨i,0,none⟩)]=>strB i H (H.get i)
 |_=>none
theorem zhX:∀(cs:List Value) (l:List UInt8),zjE cs=some l→cs=l.map fun b=>Value.int .u8 (b.toNat:Int)
 |[],l,h=>by cases h;rfl
 |v::r,l,h=>by
  unfold zjE at h;split at h
  ·rename_i q;cases q
  ·rename_i n r' q;cases q;split at h
   ·rename_i hn;split at h
    ·rename_i l' hl;cases h;rw[map_cons,←zhX _ _ hl];have:(UInt8.ofNat n).toNat=n:=by simp[UInt8.toNat_ofNat];omega
     rw[this];rfl
    ·cases h
   ·cases h
  ·cases h
theorem LRel.single{β:Bt}{a:Value}{l:List Value}(h:LRel β [a] l):∃a',l=[a']∧VRel β a a':=by
 obtain⟨hl,hv⟩:=h
 match l,hl with
 |[x],_=>exact⟨x,rfl,hv 0 _ _ rfl rfl⟩
theorem zoK{w:World}{b:Nat}{arr:Array Value}{e:TypeId}{fz:Nat×Nat}(h:w.heap[b]?=some (.cells arr e fz)):w.shape? b=some (e,arr.size):=by unfold World.shape?;rw[h]
theorem zmX(w:World)(b n:Nat):(w.freeze ⟨b,0,none⟩ n).heap.size=w.heap.size∧(∀k,k≠b→(w.freeze ⟨b,0,none⟩ n).heap[k]?=w.heap[k]?) ∧
  (∀arr e fz,w.heap[b]?=some (.cells arr e fz)→∃fz',(w.freeze ⟨b,0,none⟩ n).heap[b]?=some (.cells arr e fz'))∧(w.freeze ⟨b,0,none⟩ n).os=w.os∧(w.freeze ⟨b,0,none⟩ n).tape=w.tape∧(w.freeze ⟨b,0,none⟩ n).output=w.output:=by
 unfold World.freeze;split
 ·exact⟨rfl,fun _ _=>rfl,fun arr e fz h=>⟨fz,h⟩,rfl,rfl,rfl⟩
 ·refine⟨by simp,fun k hk=>?_,fun arr e fz h=>?_,rfl,rfl,rfl⟩
  ·simp only[Array.getElem?_modify];rw[if_neg (by omega)]
  ·simp only[Array.getElem?_modify,if_true,h,Option.map_some];exact⟨_,rfl⟩
theorem extCC_ok{args:List Value}{H:Hp}{v:Value}{H':Hp}(he:extCC args H=some (v,H')){args':List Value}{w:World}{β:Bt}(hl:LRel β args args')(hR:Rel PP w H β) :
  Calls PP Bv args'.toArray w fun x w'=>∃v' β',x=.returned v'∧Rel PP w' H' β'∧Ext w.heap.size w H β w' H' β'∧VRel β' v v':=by
 have key:∀(i:Nat) (p u:Value),H.get i=some (.cells [p,u] true)→H.ty i=some As→∀x,β i=some x→x.s=0∧∃arr fz,w.heap[x.b]?=some (.cells arr As fz)∧arr.size=x.t∧2≤arr.size∧(∀j,j<x.t→¬(fz.1≤j∧j<fz.2)) ∧
   ∃p',w.cell? ⟨x.b,0,none⟩=some p'∧VRel β p p':=by
  intro i p u hg hty x hx;obtain⟨x',hx',h1,h2⟩:=hR.cells i _ true hg;rw[hx]at hx';cases hx';obtain⟨⟨arr,e,fz,g1,g2,g3⟩,g4⟩:=h2 rfl;obtain⟨x2,arr2,fz2,hx2,hs0,g5,g6⟩:=hR.tys i _ hty;rw[hx]at hx2;cases hx2;rw[g1]at g5;cases g5;obtain⟨p',a1,a2⟩:=h1 0 p rfl;rw[hs0]at a1 g4;have g4:0+2≤x.t:=g4;exact⟨hs0,arr,fz,g1,g2,by omega,g3,p',a1,a2⟩
 unfold extCC at he;split at he
 ·rename_i i;obtain⟨a',rfl,ha⟩:=hl.single;cases ha with
  |ptr _ _ x hx=>
  unfold ccB at he;split at he
  ·rename_i u hg;split at he
   ·rename_i hty;cases he;obtain⟨hs0,arr,fz,g1,g2,g3,g4,p',c0,r0⟩:=key i _ _ hg hty x hx;cases r0;have hput:=ziy w x.b 0 (.pointer (some ⟨x.b,0,none⟩)) arr _ fz g1 (by omega);have hfz:w.frozen? ⟨x.b,0,none⟩=false:=zhU g1 (g4 0 (by omega));have hcall:=cc_fresh x.b arr.size g3 w c0 (zoK g1) hfz;rw[hs0];refine hcall.mono fun e w' ⟨h1,h2⟩=>?_;subst h2;have hv:LRel β [Value.pointer (some ⟨i,0,none⟩)] [Value.pointer (some ⟨x.b,0,none⟩)]:=by have:=VRel.ptr (β:=β) i 0 x hx;rw[hs0]at this;exact LRel.cons this (LRel.nil _)
    obtain⟨k1,k2⟩:=hR.write hg hx (off:=0) (vs:=[Value.pointer (some ⟨i,0,none⟩)]) (vs':=[Value.pointer (some ⟨x.b,0,none⟩)]) (by simp) hv (by rw[hs0];exact hput);exact⟨_,β,h1,k1,k2,.tuple [] [] rfl (fun k v v' h=>by cases h)⟩
   ·cases he
  ·rename_i j u hg;split at he
   ·rename_i hj;cases he;obtain⟨rfl,hty⟩:=hj;obtain⟨hs0,arr,fz,g1,g2,g3,g4,p',c0,r0⟩:=key _ _ _ hg hty x hx;cases r0 with
    |ptr _ _ y hy=>
    rw[hx]at hy;cases hy;rw[hs0]at c0 ⊢;refine(cc_used x.b w c0).mono fun e w' ⟨h1,h2⟩=>?_;subst h2;exact⟨_,β,h1,hR,Ext.refl _ _ _ _,.tuple [] [] rfl (fun k v v' h=>by cases h)⟩
   ·cases he
  ·cases he
 ·cases he
theorem extStr_ok{args:List Value}{H:Hp}{v:Value}{H':Hp}(he:zpw args H=some (v,H')){args':List Value}{w:World}{β:Bt}(hl:LRel β args args')(hR:Rel PP w H β) :
  Calls PP Bu args'.toArray w fun x w'=>∃v' β',x=.returned v'∧Rel PP w' H' β'∧Ext w.heap.size w H β w' H' β'∧VRel β' v v':=by
 have zero:∀i x,H.ty i=some As→β i=some x→x.s=0:=fun i x hty hx=>by obtain⟨x2,arr2,fz2,hx2,hs0,_⟩:=hR.tys i _ hty;rw[hx]at hx2;cases hx2;exact hs0
 unfold zpw at he;split at he
 ·rename_i i;obtain⟨a',rfl,ha⟩:=hl.single;cases ha with
  |ptr _ _ x hx=>
  unfold strB at he;split at he
  ·rename_i p own hg;split at he
   ·rename_i hty;cases he;have hs0:=zero i x hty hx;obtain⟨x',hx',h1,_⟩:=hR.cells i _ _ hg;rw[hx]at hx';cases hx';obtain⟨v',c1,r1⟩:=h1 1 _ rfl;cases r1;rw[hs0]at c1 ⊢;refine(str_nil x.b w c1).mono fun e w' ⟨g1,g2,g3,g4,g5⟩=>?_;have hw:∀b:Nat,w'.heap[b]?=w.heap[b]?:=fun b=>by rw[g2]
    exact⟨_,β,g1,hR.frame (by rw[g2];exact Nat.le_refl _) (fun _ _ _=>hw _),⟨g3,g4,g5,by rw[g2];exact Nat.le_refl _,Bt.le_refl _,Nat.le_refl _,fun b _ _=>hw b,fun b q=>.inr q,fun i x hx hn=>by rw[hn]at hx;cases hx⟩,.string _⟩
   ·cases he
  ·rename_i p j n c own hg;unfold strB2 at he;split at he
   ·rename_i cs hgj;split at he
    ·rename_i hc;obtain⟨hty,htj,hn0,hn,hn60⟩:=hc;split at he
     ·rename_i l hb;cases he;have hs0:=zero i x hty hx;obtain⟨x',hx',h1,_⟩:=hR.cells i _ _ hg;rw[hx]at hx';cases hx';obtain⟨v',c1,r1⟩:=h1 1 _ rfl;cases r1 with
      |slice _ _ _ _ _ y o' c' hy hnc hcc ht hoo=>
      obtain⟨y2,arr,fz,hy2,ys0,k1,k2⟩:=hR.tys j _ htj;rw[hy]at hy2;cases hy2;have ho':o'=0:=by have:=hoo (by omega);omega
      subst ho';have hcl:=zhX _ _ hb;have hlen:l.length=n:=by have:=congrArg List.length hcl;rw[length_take,length_map]at this;omega
      obtain⟨y3,hy3,m1,m2⟩:=hR.cells j _ _ hgj;rw[hy]at hy3;cases hy3;obtain⟨_,m3⟩:=m2 rfl;have hcell:∀q b,l[q]?=some b→w.cell? ((⟨y.b,0,none⟩:Addr).add q)=some (.int .u8 b.toNat):=fun q b hq=>by
       have hq':cs[q]?=some (.int .u8 (b.toNat:Int)):=by
        have e1:(cs.take n)[q]?=some (Value.int .u8 (b.toNat:Int)):=by rw[hcl,List.getElem?_map,hq];rfl
        rw[List.getElem?_take]at e1;split at e1
        ·exact e1
        ·cases e1
       obtain⟨v2,d1,d2⟩:=m1 q _ hq';cases d2;have ea:(⟨y.b,0,none⟩:Addr).add q=⟨y.b,y.s+q,none⟩:=by rw[ys0];unfold Addr.add;split<;>simp_all
       rw[ea];exact d1
      rw[hs0]at c1 ⊢;rw[←hlen]at c1;have hne:l≠[]:=fun q=>by rw[q]at hlen;simp at hlen;omega
      refine(str_row x.b y.b c' arr.size l hne (by omega) (by omega) (by omega) w c1 (zoK k1) hcell).mono fun e w' ⟨g1,w0,g2,g3,g4,g5,g6⟩=>?_;subst g6;obtain⟨f1,f2,f3,f4,f5,f6⟩:=zmX w0 y.b l.length;obtain⟨q1,q2⟩:=hR.freeze (w':=w0.freeze ⟨y.b,0,none⟩ l.length) hgj hy (f4.trans g3) (f5.trans g4) (f6.trans g5) (by rw[f1,g2]) (fun k hk=>by rw[f2 k hk,g2]) (fun arr e fz hh=>f3 arr e fz (by rw[g2];exact hh));exact⟨_,β,g1,q1,q2,.string _⟩
     ·cases he
    ·cases he
   ·cases he
  ·cases he
 ·cases he
end Go.AM
namespace Go.AM
open Go Go.AM
noncomputable def zaz(R:zag)(k:Value)(l:Value)(m:Value)(d:Value)(f:Value)(n:Value)(c:List Value)(g:Hp):Option Outc:=pBin PP .lss Aa (c.getD 0 undef) n fun o=>zaa o fun p=>br p (pIdx 1 l (c.getD 0 undef) fun q=>zal 1 false g q fun e=>zad R Av [k,e] g fun h r=>zaf h 0 fun s=>zaf h 1 fun Z=>zaV 7 [.int .i64 0,.int .i64 0,.int .i64 0,.int .i64 0,.int .i64 0,.int .u64 0,.string ⟨#[]⟩] 0 s fun a=>zai 1 false a 1 fun t=>pUpd PP Aa f e t r fun b=>zai 1 false a 0 fun u=>pBin PP .neq Aa u (.int .i64 4) fun v=>zaa v fun w=>br w (zai 7 true a 0 fun x=>zai 1 false a 2 fun y=>zbj PP Aa (.int .u64 0) d y false b fun z=>zai 1 false a 3 fun A=>zbj PP Aa (.int .u64 0) d A false b fun B=>zai 1 false a 4 fun C=>zbj PP Aa (.int .u64 0) d C false b fun D=>zai 1 false a 2 fun E=>zbj PP Aa (.int .i64 0) f E false b fun F=>zai 1 false a 3 fun G=>zbj PP Aa (.int .i64 0) f G false b fun H=>zad R BS [x,z,B,D,F,H] b fun I J=>pUpd PP Aa d e I J fun K=>pBin PP .add Aa (c.getD 0 undef) (.int .i64 1) fun L=>some (.next,[L],K)) (zai 1 false a 6 fun M=>zbj PP Ac (.agg #[.string ⟨#[]⟩,.int .i64 0,.int .u64 0]) m M true b fun i=>zaf i 0 fun N=>zaf i 1 fun O=>zaV 3 [.string ⟨#[]⟩,.int .i64 0,.int .u64 0] 0 N fun j=>zaa O fun P=>br P (zai 1 false j 1 fun Q=>zai 1 false a 1 fun S=>pBin PP .neq Aa Q S fun T=>zaa T fun U=>br U (some (.ret,[(.tuple #[(.slice none 0 0),(.int .i64 71)])],b)) (zai 1 false j 2 fun V=>pUpd PP Aa d e V b fun W=>pBin PP .add Aa (c.getD 0 undef) (.int .i64 1) fun X=>some (.next,[X],W))) (pBin PP .add Aa (c.getD 0 undef) (.int .i64 1) fun Y=>some (.next,[Y],b)))) (some (.exit 0,[(c.getD 0 undef)],g))
noncomputable def zbr(R:zag)(c:Value)(d:Value)(e:Value)(a:List Value)(b:Hp):Option Outc:=pBin PP .lss Aa (a.getD 1 undef) e fun f=>zaa f fun g=>br g (pIdx 1 c (a.getD 1 undef) fun h=>zal 1 false b h fun i=>zbj PP Aa (.int .u64 0) d i false b fun j=>zam 1 [.int .u64 0] 1 [(0,j)] b fun k l=>zaJ 1 8 (a.getD 0 undef) k l fun m n=>pBin PP .add Aa (a.getD 1 undef) (.int .i64 1) fun o=>some (.next,[m,o],n)) (some (.exit 2,[(a.getD 0 undef),(a.getD 1 undef)],b))
theorem zlI(R:zag)(b a g:Value)(d:Hp):zgQ R b a g d =
pBin PP .eql Al b (.pointer none) fun s=>zaa s fun t=>br t (some ((.tuple #[(.slice none 0 0),(.int .i64 2)]),d)) (zad R Aw [b,a] d fun h i=>zaf h 0 fun c=>zaf h 1 fun j=>pBin PP .neq Ak j (.int .i64 0) fun u=>zaa u fun v=>br v (some ((.tuple #[(.slice none 0 0),j]),i)) (zad R Bm [g] i fun k e=>zaf k 0 fun w=>zaf k 1 fun l=>pBin PP .neq Ak l (.int .i64 0) fun x=>zaa x fun y=>br y (some ((.tuple #[(.slice none 0 0),l]),e)) (pLen .sl c e fun z=>zgh z (zbY e fun m n=>pLen .sl c n fun A=>zgh A (zbY n fun B o=>pLen .sl c o fun C=>zau (zat (zaz R b c w m B C) [(.int .i64 0)] o) fun D E f=>zaC D none (fun F=>zav F 0 (pLen .sl a f fun G=>zaZ 1 8 [.int .u64 0] (.int .i64 0) G f fun H p=>pLen .sl a p fun I=>zau (zat (zbr R a m I) [H,(.int .i64 0)] p) fun J q r=>zaC J none (fun K=>zav K 2 (some ((.tuple #[(q.getD 0 undef),(.int .i64 0)]),r)) (none)) (some ((q.headD undef),r))) (none)) (some ((E.headD undef),f))))))):=by kernel_rfl
noncomputable def zbb(R:zag)(c:Value)(d:Value)(b:List Value)(a:Hp):Option Outc:=pLen .sl c a fun e=>pBin PP .lss Aa (b.getD 0 undef) e fun f=>zaa f fun g=>br g (pIdx 1 c (b.getD 0 undef) fun h=>zal 1 false a h fun i=>pIdx 1 d (b.getD 0 undef) fun j=>zal 1 false a j fun k=>pBin PP .neq Ab i k fun l=>zaa l fun m=>br m (some (.ret,[(.bool false)],a)) (pBin PP .add Aa (b.getD 0 undef) (.int .i64 1) fun n=>some (.next,[n],a))) (some (.exit 0,[(b.getD 0 undef)],a))
theorem zeO(R:zag)(b c:Value)(a:Hp):zcD R b c a =
pLen .sl b a fun e=>pLen .sl c a fun f=>pBin PP .neq Aa e f fun g=>zaa g fun h=>br h (some ((.bool false),a)) (zau (zat (zbb R b c) [(.int .i64 0)] a) fun i j d=>zaC i none (fun k=>zav k 0 (some ((.bool true),d)) (none)) (some ((j.headD undef),d))):=by kernel_rfl
noncomputable def zcH(R:zag)(f:Value)(g:Value)(h:Value)(a:List Value)(b:Hp):Option Outc:=pBin PP .lss Aa (a.getD 1 undef) h fun i=>zaa i fun j=>br j (pIdx 1 g (a.getD 1 undef) fun k=>zal 1 false b k fun l=>zad R Av [f,l] b fun d e=>zaf d 0 fun m=>zaf d 1 fun z=>zaV 7 [.int .i64 0,.int .i64 0,.int .i64 0,.int .i64 0,.int .i64 0,.int .u64 0,.string ⟨#[]⟩] 0 m fun c=>zai 1 false c 0 fun n=>pBin PP .eql Aa n (.int .i64 4) fun o=>zaa o fun p=>br p (zai 1 false c 6 fun q=>zai 1 false c 1 fun r=>zaB PP A8 [(0,q),(1,r)] fun s=>zam 3 [.string ⟨#[]⟩,.int .i64 0,.int .u64 0] 1 [(0,s)] e fun t u=>zaJ 3 32 (a.getD 0 undef) t u fun v w=>pBin PP .add Aa (a.getD 1 undef) (.int .i64 1) fun x=>some (.next,[v,x],w)) (pBin PP .add Aa (a.getD 1 undef) (.int .i64 1) fun y=>some (.next,[(a.getD 0 undef),y],e))) (some (.exit 0,[(a.getD 0 undef),(a.getD 1 undef)],b))
theorem zoe(R:zag)(a d:Value)(b:Hp):zjc R a d b =
pBin PP .eql Al a (.pointer none) fun j=>zaa j fun k=>br k (some ((.tuple #[(.slice none 0 0),(.int .i64 2)]),b)) (zad R Aw [a,d] b fun e c=>zaf e 0 fun f=>zaf e 1 fun g=>pBin PP .neq Ak g (.int .i64 0) fun l=>zaa l fun m=>br m (some ((.tuple #[(.slice none 0 0),g]),c)) (pLen .sl f c fun n=>zau (zat (zcH R a f n) [(.slice none 0 0),(.int .i64 0)] c) fun o h i=>zaC o none (fun p=>zav p 0 (some ((.tuple #[(h.getD 0 undef),(.int .i64 0)]),i)) (none)) (some ((h.headD undef),i)))):=by kernel_rfl
noncomputable def zaU(R:zag)(g:Value)(e:Value)(a:List Value)(b:Hp):Option Outc:=pLen .sl g b fun j=>pBin PP .lss Aa (a.getD 1 undef) j fun k=>zaa k fun l=>br l (pIdx 3 g (a.getD 1 undef) fun m=>zal 3 true b m fun n=>zaV 3 [.string ⟨#[]⟩,.int .i64 0,.int .u64 0] 0 n fun o=>zaV 1 o 2 (.int .u64 0) fun h=>zau (pLen .sl e b fun p=>pBin PP .gtr Aa p (.int .i64 0) fun q=>zaa q fun r=>br r (pLen .sl e b fun s=>pBin PP .rem Aa (a.getD 1 undef) s fun t=>pIdx 1 e t fun u=>zal 1 false b u fun v=>zaV 1 h 2 v fun w=>some (.next,[(.agg w.toArray)],b)) (some (.next,[(.agg h.toArray)],b))) fun x c d=>zaC x (zai 1 false (zab ((c.drop 0).getD 0 undef)) 1 fun f=>pBin PP .eql Aa f (.int .i64 0) fun y=>zaa y fun z=>br z (pBin PP .lss Aa (.int .i64 1) (.int .i64 64) fun A=>zaa A fun B=>br B (zai 1 false (zab ((c.drop 0).getD 0 undef)) 2 fun C=>zaj .u64 (.int .i64 1) fun D=>pBin PP .shl Ab (.int .u64 1) D fun E=>pBin PP .sub Ab E (.int .u64 1) fun F=>pBin PP .and Ab C F fun G=>zaV 1 (zab ((c.drop 0).getD 0 undef)) 2 G fun H=>zai 3 true H 0 fun I=>zam 3 [.string ⟨#[]⟩,.int .i64 0,.int .u64 0] 1 [(0,I)] d fun J K=>zaJ 3 32 (a.getD 0 undef) J K fun L M=>pBin PP .add Aa (a.getD 1 undef) (.int .i64 1) fun N=>some (.next,[L,N],M)) (zai 3 true (zab ((c.drop 0).getD 0 undef)) 0 fun O=>zam 3 [.string ⟨#[]⟩,.int .i64 0,.int .u64 0] 1 [(0,O)] d fun P Q=>zaJ 3 32 (a.getD 0 undef) P Q fun S T=>pBin PP .add Aa (a.getD 1 undef) (.int .i64 1) fun U=>some (.next,[S,U],T))) (pBin PP .lss Aa f (.int .i64 64) fun V=>zaa V fun W=>br W (zai 1 false (zab ((c.drop 0).getD 0 undef)) 2 fun X=>zaj .u64 f fun Y=>pBin PP .shl Ab (.int .u64 1) Y fun Z=>pBin PP .sub Ab Z (.int .u64 1) fun aa=>pBin PP .and Ab X aa fun ab=>zaV 1 (zab ((c.drop 0).getD 0 undef)) 2 ab fun ac=>zai 3 true ac 0 fun ad=>zam 3 [.string ⟨#[]⟩,.int .i64 0,.int .u64 0] 1 [(0,ad)] d fun ae af=>zaJ 3 32 (a.getD 0 undef) ae af fun ag ah=>pBin PP .add Aa (a.getD 1 undef) (.int .i64 1) fun ai=>some (.next,[ag,ai],ah)) (zai 3 true (zab ((c.drop 0).getD 0 undef)) 0 fun aj=>zam 3 [.string ⟨#[]⟩,.int .i64 0,.int .u64 0] 1 [(0,aj)] d fun ak al=>zaJ 3 32 (a.getD 0 undef) ak al fun am ao=>pBin PP .add Aa (a.getD 1 undef) (.int .i64 1) fun ap=>some (.next,[am,ap],ao)))) (fun i=>zav i 1 (pBin PP .add Aa (a.getD 1 undef) (.int .i64 1) fun aq=>some (.next,[(a.getD 0 undef),aq],d)) (some (.exit i,[(a.getD 0 undef),(a.getD 1 undef)],d))) (some (.ret,[(c.headD undef)],d))) (some (.exit 0,[(a.getD 0 undef),(a.getD 1 undef)],b))
theorem zfO(R:zag)(a b:Value)(c:Hp):zdz R a b c =
zau (zat (zaU R a b) [(.slice none 0 0),(.int .i64 0)] c) fun f d e=>zaC f none (fun g=>zav g 0 (some ((d.getD 0 undef),e)) (none)) (some ((d.headD undef),e)):=by kernel_rfl
noncomputable def zbz(R:zag)(d:Value)(e:Value)(c:Value)(h:Value)(a:List Value)(b:Hp):Option Outc:=pBin PP .lss Aa (a.getD 0 undef) (.int .i64 3) fun i=>zaa i fun j=>br j (zcx 3 false 1 h (a.getD 0 undef) fun f=>pBin PP .neq Aa f (.int .i64 0) fun k=>zaa k fun l=>br l (zbj PP Aa (.int .u64 0) d c false b fun m=>zbj PP Aa (.int .u64 0) d f false b fun n=>zad R BU [m,n] b fun o p=>pUpd PP Aa d c o p fun g=>zbj PP Aa (.int .i64 0) e c false g fun q=>zbj PP Aa (.int .i64 0) e f false g fun r=>pMM true [q,r] fun s=>pUpd PP Aa e c s g fun t=>pBin PP .add Aa (a.getD 0 undef) (.int .i64 1) fun u=>some (.next,[u],t)) (pBin PP .add Aa (a.getD 0 undef) (.int .i64 1) fun v=>some (.next,[v],b))) (some (.exit 2,[(a.getD 0 undef)],b))
noncomputable def zbX(R:zag)(j:Value)(k:Value)(h:Value)(d:Value)(l:Value)(a:List Value)(e:Hp):Option Outc:=pBin PP .lss Aa (a.getD 0 undef) l fun m=>zaa m fun n=>br n (pIdx 1 k (a.getD 0 undef) fun o=>zal 1 false e o fun b=>zad R Av [j,b] e fun i p=>zaf i 0 fun q=>zaf i 1 fun D=>zaV 7 [.int .i64 0,.int .i64 0,.int .i64 0,.int .i64 0,.int .i64 0,.int .u64 0,.string ⟨#[]⟩] 0 q fun f=>pUpd PP Aa h b (.int .u64 1) p fun r=>zai 1 false f 2 fun s=>zai 1 false f 3 fun t=>zai 1 false f 4 fun u=>zaB PP A6 [(0,s),(1,t),(2,u)] fun v=>zau (zat (zbz R h d b v) [(.int .i64 0)] r) fun w x c=>zaC w none (fun g=>zav g 2 (zbj PP Aa (.int .i64 0) d b false c fun y=>pBin PP .add Aa y (.int .i64 1) fun z=>pUpd PP Aa d b z c fun A=>pBin PP .add Aa (a.getD 0 undef) (.int .i64 1) fun B=>some (.next,[B],A)) (zav g 1 (pBin PP .add Aa (a.getD 0 undef) (.int .i64 1) fun C=>some (.next,[C],c)) (some (.exit g,[(a.getD 0 undef)],c)))) (some (.ret,[(x.headD undef)],c))) (some (.exit 0,[(a.getD 0 undef)],e))
theorem zof(R:zag)(c d:Value)(e:Hp):zjd R c d e =
pBin PP .eql Al c (.pointer none) fun m=>zaa m fun n=>br n (some ((.tuple #[(.int .i64 0),(.int .u64 0),(.int .i64 0),(.int .i64 2)]),e)) (zam 1 [.int .i64 0] 1 [(0,d)] e fun o p=>zad R Aw [c,o] p fun g f=>zaf g 0 fun a=>zaf g 1 fun h=>pBin PP .neq Ak h (.int .i64 0) fun q=>zaa q fun r=>br r (some ((.tuple #[(.int .i64 0),(.int .u64 0),(.int .i64 0),h]),f)) (pLen .sl a f fun s=>zgh s (zbY f fun i j=>pLen .sl a j fun t=>zgh t (zbY j fun k l=>pLen .sl a l fun u=>zau (zat (zbX R c a i k u) [(.int .i64 0)] l) fun v w b=>zaC v none (fun x=>zav x 0 (pLen .sl a b fun y=>zbj PP Aa (.int .u64 0) i d false b fun z=>zbj PP Aa (.int .i64 0) k d false b fun A=>some ((.tuple #[y,z,A,(.int .i64 0)]),b)) (none)) (some ((w.headD undef),b)))))):=by kernel_rfl
noncomputable def zbd(R:zag)(d:Value)(e:Value)(f:Value)(b:List Value)(a:List Value)(c:Hp):Option Outc:=pBin PP .lss Aa (a.getD 0 undef) e fun g=>zaa g fun h=>br h (zai 1 false b 2 fun i=>zai 1 false b 3 fun j=>zai 1 false b 4 fun k=>zaB PP A6 [(0,i),(1,j),(2,k)] fun l=>zcx 3 false 1 l (a.getD 0 undef) fun m=>zbj PP Aa (.int .i64 0) d m false c fun n=>zad R At [n,f] c fun q o=>pBin PP .add Aa (a.getD 0 undef) (.int .i64 1) fun p=>some (.next,[p],o)) (some (.exit 3,[(a.getD 0 undef)],c))
noncomputable def zaE(R:zag)(k:Value)(t:Value)(l:Value)(u:Value)(v:Value)(a:Value)(b:List Value)(g:Hp):Option Outc:=pBin PP .lss Aa (b.getD 0 undef) u fun w=>zaa w fun x=>br x (pIdx 1 t (b.getD 0 undef) fun y=>zal 1 false g y fun m=>pBin PP .add Aa (b.getD 0 undef) (.int .i64 1) fun z=>pUpd PP Aa l m z g fun e=>pNil k (zas 1 k fun A=>zal 1 false e A fun B=>pBin PP .sub Aa m (.int .i64 1) fun C=>pIdx 7 B C fun D=>zal 7 true e D fun E=>zaV 7 [.int .i64 0,.int .i64 0,.int .i64 0,.int .i64 0,.int .i64 0,.int .u64 0,.string ⟨#[]⟩] 0 E fun c=>pBin PP .add Aa (b.getD 0 undef) (.int .i64 1) fun F=>zad R Br [F] e fun G n=>pBin PP .add Ac G (.string ⟨#[32]⟩) fun H=>zai 1 false c 0 fun I=>pIdx 1 v I fun o=>zal 1 false n o fun p=>chk (Hp.rdP e o 1 false=some p) (pBin PP .add Ac H p fun J=>zad R AE [a,J] n fun bm h=>zau (zai 1 false c 0 fun q=>pBin PP .eql Aa q (.int .i64 3) fun K=>zaa K fun L=>br L (zai 1 false c 1 fun M=>zad R At [M,a] h fun bn N=>zai 1 false c 5 fun O=>zad R Bd [O] N fun P Q=>pBin PP .add Ac (.string ⟨#[32]⟩) P fun S=>zad R AE [a,S] Q fun bo T=>some (.next,[],T)) (pBin PP .eql Aa q (.int .i64 4) fun U=>zaa U fun V=>br V (zai 1 false c 6 fun W=>pBin PP .add Ac (.string ⟨#[32]⟩) W fun X=>zad R AE [a,X] h fun bp Y=>zai 1 false c 1 fun Z=>zad R At [Z,a] Y fun bq aa=>some (.next,[],aa)) (some (.next,[],h)))) fun ab ac f=>zaC ab (zai 1 false c 0 fun ad=>zad R Ax [ad] f fun ae af=>zau (zat (zbd R l ae a c) [(.int .i64 0)] af) fun ag ah d=>zaC ag none (fun i=>zav i 3 (zai 1 false c 0 fun j=>pBin PP .eql Aa j (.int .i64 31) fun ai=>zaa ai fun aj=>br aj (zai 1 false c 5 fun ak=>zaj .i64 ak fun al=>zad R At [al,a] d fun bs am=>zai 1 false c 1 fun ao=>zad R At [ao,a] am fun bt ap=>zad R Ay [a,(.int .u8 10)] ap fun bu aq=>pBin PP .add Aa (b.getD 0 undef) (.int .i64 1) fun ar=>some (.next,[ar],aq)) (pBin PP .eql Aa j (.int .i64 32) fun r=>zaa r fun au=>br au (zaa r fun av=>br av (zai 1 false c 1 fun aw=>zad R At [aw,a] d fun bv ax=>zad R Ay [a,(.int .u8 10)] ax fun bw ay=>pBin PP .add Aa (b.getD 0 undef) (.int .i64 1) fun az=>some (.next,[az],ay)) (zad R Ay [a,(.int .u8 10)] d fun bx ba=>pBin PP .add Aa (b.getD 0 undef) (.int .i64 1) fun bb=>some (.next,[bb],ba))) (pBin PP .eql Aa j (.int .i64 33) fun bc=>zaa bc fun bd=>br bd (zai 1 false c 1 fun be=>zad R At [be,a] d fun bz bf=>zad R Ay [a,(.int .u8 10)] bf fun ca bg=>pBin PP .add Aa (b.getD 0 undef) (.int .i64 1) fun bh=>some (.next,[bh],bg)) (zad R Ay [a,(.int .u8 10)] d fun cb bi=>pBin PP .add Aa (b.getD 0 undef) (.int .i64 1) fun bj=>some (.next,[bj],bi))))) (zav i 1 (pBin PP .add Aa (b.getD 0 undef) (.int .i64 1) fun bk=>some (.next,[bk],d)) (some (.exit i,[(b.getD 0 undef)],d)))) (some (.ret,[(ah.headD undef)],d))) (fun s=>zav s 1 (pBin PP .add Aa (b.getD 0 undef) (.int .i64 1) fun bl=>some (.next,[bl],f)) (some (.exit s,[(b.getD 0 undef)],f))) (some (.ret,[(ac.headD undef)],f))))) (some (.exit 0,[(b.getD 0 undef)],g))
noncomputable def zbc(R:zag)(c:Value)(d:Value)(e:Value)(f:Value)(a:List Value)(b:Hp):Option Outc:=pBin PP .lss Aa (a.getD 0 undef) e fun g=>zaa g fun h=>br h (pIdx 1 c (a.getD 0 undef) fun i=>zal 1 false b i fun j=>zbj PP Aa (.int .i64 0) d j false b fun k=>zad R At [k,f] b fun n l=>pBin PP .add Aa (a.getD 0 undef) (.int .i64 1) fun m=>some (.next,[m],l)) (some (.exit 6,[(a.getD 0 undef)],b))
theorem zhs(R:zag)(c b:Value)(d:Hp):zeL R c b d =
zad R Aw [c,b] d fun e f=>zaf e 0 fun g=>zaf e 1 fun h=>pBin PP .neq Ak h (.int .i64 0) fun n=>zaa n fun o=>br o (some ((.tuple #[(.string ⟨#[]⟩),h]),f)) (zlv As [.pointer none,.slice none 0 0] f fun a p=>zbY p fun i q=>zad R A5 [] q fun r j=>pLen .sl g j fun s=>zau (zat (zaE R c g i s r a) [(.int .i64 0)] j) fun t u k=>zaC t none (fun v=>zav v 0 (zad R AE [a,(.string ⟨#[114,111,111,116,115]⟩)] k fun D l=>pLen .sl b l fun w=>zau (zat (zbc R b i w a) [(.int .i64 0)] l) fun x y m=>zaC x none (fun z=>zav z 6 (zad R Ay [a,(.int .u8 10)] m fun E A=>zad R Bu [a] A fun B C=>some ((.tuple #[B,(.int .i64 0)]),C)) (none)) (some ((y.headD undef),m))) (none)) (some ((u.headD undef),k))):=by kernel_rfl
noncomputable def zbm(R:zag)(g:Value)(b:Value)(c:Value)(t:List Value)(a:Hp):Option Outc:=pNil c (zas 1 c fun h=>zal 1 false a h fun i=>pLen .sl i a fun j=>pBin PP .gtr Aa j (.int .i64 0) fun k=>zaa k fun l=>br l (zal 1 false a b fun d=>zbh R BD [c] a (fun m n=>some (.ret,[(W0 (.tuple #[m,g]))],n)) fun o e=>chk (Hp.rdP e b 1 false=some d) (zam 1 [.int .i64 0] 1 [(0,o)] e fun p f=>chk (Hp.rdP f b 1 false=some d) (zaJ 1 8 d p f fun q r=>zao 1 r b q fun s=>some (.next,[],s)))) (some (.exit 2,[],a)))
noncomputable def zaW(R:zag)(l:Value)(m:Value)(b:Value)(n:List Value)(a:List Value)(g:Hp):Option Outc:=pBin PP .lss Aa (a.getD 2 undef) l fun o=>zaa o fun p=>br p (pIdx 1 (n.getD 0 undef) (a.getD 2 undef) fun q=>zal 1 false g q fun r=>pBin PP .add Aa (a.getD 2 undef) (.int .i64 1) fun c=>zad R AK [r,(.func (.func AF) #[] #[])] g fun s t=>pNil b (zas 1 b fun u=>zao 1 t u s fun e=>zau (zaa (a.getD 1 undef) fun v=>br v (zaB PP Ae [(0,(.int .i64 3))] fun w=>some (.ret,[(W0 (.tuple #[(.iface Ae w),c]))],e)) (pNil b (zas 1 b fun x=>zal 1 false e x fun y=>pLen .sl y e fun z=>pBin PP .eql Aa z (.int .i64 0) fun A=>zaa A fun B=>br B (zaB PP Ae [(0,(.int .i64 3))] fun C=>some (.ret,[(W0 (.tuple #[(.iface Ae C),c]))],e)) (some (.next,[],e))))) fun D E d=>zaC D (pNil b (zas 1 b fun F=>zal 1 false d F fun G=>pIdx 1 G (.int .i64 0) fun H=>zal 1 false d H fun I=>pBin PP .eql Ac I (.string ⟨#[114,111,111,116,115]⟩) fun J=>zaa J fun K=>br K (zbh R Ap [b] d (fun L M=>some (.ret,[(W0 (.tuple #[L,c]))],M)) fun ao N=>zau (zat (zbm R c m b) [] N) fun O P f=>zaC O none (fun h=>zav h 2 (pBin PP .add Aa (a.getD 2 undef) (.int .i64 1) fun Q=>some (.next,[c,(.bool true),Q],f)) (zav h 1 (pBin PP .add Aa (a.getD 2 undef) (.int .i64 1) fun S=>some (.next,[c,(a.getD 1 undef),S],f)) (some (.exit h,[c,(a.getD 1 undef),(a.getD 2 undef)],f)))) (some (.ret,[(P.headD undef)],f))) (zbh R An [b] d (fun T U=>some (.ret,[(W0 (.tuple #[T,c]))],U)) fun V i=>pBin PP .add Aa (a.getD 2 undef) (.int .i64 1) fun W=>pBin PP .neq Aa V W fun X=>zaa X fun Y=>br Y (zaB PP Ae [(0,(.int .i64 3))] fun Z=>some (.ret,[(W0 (.tuple #[(.iface Ae Z),c]))],i)) (zbh R AN [b] i (fun aa ab=>some (.ret,[(W0 (.tuple #[aa,c]))],ab)) fun ac j=>pNil b (zas 2 b fun ad=>zal 1 false j ad fun ae=>zam 1 [.int .i64 0] 1 [(0,ac)] j fun af ag=>zaJ 1 8 ae af ag fun ah ai=>pNil b (zas 2 b fun aj=>zao 1 ai aj ah fun ak=>pBin PP .add Aa (a.getD 2 undef) (.int .i64 1) fun al=>some (.next,[c,(a.getD 1 undef),al],ak))))))) (fun k=>zav k 1 (pBin PP .add Aa (a.getD 2 undef) (.int .i64 1) fun am=>some (.next,[c,(a.getD 1 undef),am],d)) (some (.exit k,[c,(a.getD 1 undef),(a.getD 2 undef)],d))) (some (.ret,[(E.headD undef)],d)))) (some (.exit 0,[(a.getD 0 undef),(a.getD 1 undef),(a.getD 2 undef)],g))
theorem zoc(R:zag)(e f:Value)(t:Hp):zi8 R e f t =
zcI [.pointer none] t fun b D=>zcI [.slice none 0 0] D fun c E=>zcI [.int .i64 0] E fun a F=>zad R AU [f] F fun g G=>zaf g 0 fun n=>zaf g 1 fun o=>zao 1 G b n fun H=>zao 1 H a o fun k=>zal 1 false k a fun p=>pBin PP .neq Ak p (.int .i64 0) fun q=>zaa q fun I=>br I (zal 1 false k a fun r=>zao 1 k b (.pointer none) fun u=>chk (Hp.rdP u a 1 false=some r) (zao 1 u c (.slice none 0 0) fun v=>chk (Hp.rdP v a 1 false=some r) (zao 1 v a r fun l=>zal 1 false l b fun J=>zal 1 false l c fun K=>zal 1 false l a fun L=>some ((W1 (.tuple #[J,K,(.int .i64 0),L])),l)))) (zad R Bz [e,(.string ⟨#[10]⟩)] k fun d j=>zau (pLen .sl d j fun M=>pBin PP .sub Aa M (.int .i64 1) fun N=>pIdx 1 d N fun O=>zal 1 false j O fun P=>pBin PP .eql Ac P (.string ⟨#[]⟩) fun Q=>zaa Q fun S=>br S (pLen .sl d j fun T=>pBin PP .sub Aa T (.int .i64 1) fun U=>zdw 1 d none (some U) fun V=>some (.next,[V],j)) (some (.next,[d],j))) fun W h s=>zaC W (zg6 (zal 1 false s b fun X=>zaB PP Cf [(0,X)] fun Y=>zcI (zab Y) s fun Z w=>pLen .sl (h.getD 0 undef) w fun aa=>zau (zat (zaW R aa c Z h) [(.int .i64 0),(.bool false),(.int .i64 0)] w) fun ab x i=>zaC ab none (fun ac=>zav ac 0 (pLen .sl (h.getD 0 undef) i fun ad=>pBin PP .add Aa ad (.int .i64 1) fun ae=>pUn .not (x.getD 1 undef) fun af=>zaa af fun ag=>br ag (zaB PP Ae [(0,(.int .i64 3))] fun ah=>some ((W0 (.tuple #[(.iface Ae ah),ae])),i)) (zal 1 false i b fun ai=>zal 1 false i c fun y=>zao 1 i b ai fun z=>chk (Hp.rdP z c 1 false=some y) (zao 1 z c y fun aj=>zao 1 aj a (.int .i64 0) fun m=>zal 1 false m b fun ak=>zal 1 false m c fun al=>zal 1 false m a fun am=>some ((W1 (.tuple #[ak,al,(.int .i64 0),am])),m)))) (none)) (some ((x.headD undef),i))) fun ao A=>zfj ao (fun u140=>zk2 [.cell 4 24,.cell 5 22,.tmp 6,.cell 7 30] u140 fun ap=>zmB [.cell 4 24,.cell 5 22,.tmp 6,.cell 7 30] ap fun aq=>zg1 PP orc R BB [b,c,a] .nilIface A fun B=>endL PP [.val e,.val f,.unk,.unk,.val b,.val c,.val (.int .i64 0),.val a,.val (h.getD 0 undef),.unk,.unk,.unk,.unk,.unk,.val g,.val f,.val g,.val n,.val o,.val p,.val q,.unk,.val e,.val d,.unk,.unk,.unk,.unk,.unk,.unk,.unk,.unk,.unk,.unk,.unk,.unk,.val (.func (.func BB) #[] #[b,c,a]),.unk,.unk,.unk,.unk,.unk,.unk,.unk,.unk,.unk,.unk,.unk,.unk,.unk,.unk,.unk,.unk,.unk,.unk,.unk,.unk,.unk,.unk,.unk,.unk,.unk,.unk,.unk,.unk,.unk,.unk,.unk,.unk,.unk,.unk,.unk,.unk,.unk,.unk,.unk,.unk,.unk,.unk,.unk,.unk,.unk,.unk,.unk,.unk,.unk,.unk,.unk,.unk,.unk,.unk,.unk,.unk,.unk,.unk,.unk,.unk,.unk,.unk,.unk,.unk,.unk,.unk,.unk,.unk,.unk,.unk,.unk,.unk,.unk,.unk,.unk,.unk,.unk] B [.cell 4 24,.cell 5 22,.tmp 6,.cell 7 30] aq fun ar=>some (W1 (resV ar),B)) (fun au=>pTail au fun av aw=>zg1 PP orc R BB [b,c,a] av A fun C=>endL PP [.val e,.val f,.unk,.unk,.val b,.val c,.val (.int .i64 0),.val a,.val (h.getD 0 undef),.unk,.unk,.unk,.unk,.unk,.val g,.val f,.val g,.val n,.val o,.val p,.val q,.unk,.val e,.val d,.unk,.unk,.unk,.unk,.unk,.unk,.unk,.unk,.unk,.unk,.unk,.unk,.val (.func (.func BB) #[] #[b,c,a]),.unk,.unk,.unk,.unk,.unk,.unk,.unk,.unk,.unk,.unk,.unk,.unk,.unk,.unk,.unk,.unk,.unk,.unk,.unk,.unk,.unk,.unk,.unk,.unk,.unk,.unk,.unk,.unk,.unk,.unk,.unk,.unk,.unk,.unk,.unk,.unk,.unk,.unk,.unk,.unk,.unk,.unk,.unk,.unk,.unk,.unk,.unk,.unk,.unk,.unk,.unk,.unk,.unk,.unk,.unk,.unk,.unk,.unk,.unk,.unk,.unk,.unk,.unk,.unk,.unk,.unk,.unk,.unk,.unk,.unk,.unk,.unk,.unk,.unk,.unk,.unk,.unk] C [.cell 4 24,.cell 5 22,.tmp 6,.cell 7 30] aw fun ax=>some (W1 (resV ax),C))) (fun ay=>none) (retT (h.headD undef) s)):=by kernel_rfl
noncomputable def zaS(R:zag)(d:Value)(e:Value)(f:Value)(a:List Value)(b:Hp):Option Outc:=pBin PP .lss Aa (a.getD 0 undef) f fun g=>zaa g fun h=>br h (pIdx 1 e (a.getD 0 undef) fun i=>zal 1 false b i fun j=>zad R AL [d,j] b fun k c=>pUn .not k fun l=>zaa l fun m=>br m (some (.ret,[(.tuple #[(.slice none 0 0),(.int .i64 70)])],c)) (pBin PP .add Aa (a.getD 0 undef) (.int .i64 1) fun n=>some (.next,[n],c))) (some (.exit 0,[(a.getD 0 undef)],b))
noncomputable def zax(R:zag)(h:Value)(i:Value)(a:List Value)(c:Hp):Option Outc:=pLen .sl (a.getD 1 undef) c fun m=>pBin PP .gtr Aa m (.int .i64 0) fun n=>zaa n fun o=>br o (pLen .sl (a.getD 1 undef) c fun p=>pBin PP .sub Aa p (.int .i64 1) fun q=>pIdx 2 (a.getD 1 undef) q fun b=>pNil h (zas 1 h fun r=>zal 1 false c r fun s=>pNil b (zas 0 b fun t=>zal 1 false c t fun u=>pBin PP .sub Aa u (.int .i64 1) fun v=>pIdx 7 s v fun w=>zal 7 true c w fun x=>zaV 7 [.int .i64 0,.int .i64 0,.int .i64 0,.int .i64 0,.int .i64 0,.int .u64 0,.string ⟨#[]⟩] 0 x fun e=>pNil b (zas 1 b fun j=>zal 1 false c j fun k=>zai 1 false e 0 fun y=>zad R Ax [y] c fun z d=>chk (Hp.rdP d j 1 false=some k) (pBin PP .eql Aa k z fun A=>zaa A fun B=>br B (pNil b (zas 0 b fun C=>zal 1 false d C fun D=>zam 1 [.int .i64 0] 1 [(0,D)] d fun E F=>zaJ 1 8 (a.getD 0 undef) E F fun G l=>pLen .sl (a.getD 1 undef) l fun H=>pBin PP .sub Aa H (.int .i64 1) fun I=>zdw 2 (a.getD 1 undef) none (some I) fun J=>some (.next,[G,J],l))) (zai 1 false e 2 fun K=>zai 1 false e 3 fun L=>zai 1 false e 4 fun M=>zaB PP A6 [(0,K),(1,L),(2,M)] fun N=>pNil b (zas 1 b fun O=>zal 1 false d O fun P=>zcx 3 false 1 N P fun f=>pNil b (zas 1 b fun Q=>zal 1 false d Q fun S=>pBin PP .add Aa S (.int .i64 1) fun T=>pNil b (zas 1 b fun U=>zao 1 d U T fun g=>pIdx 1 i f fun V=>zal 1 false g V fun W=>pUn .not W fun X=>zaa X fun Y=>br Y (pIdx 1 i f fun Z=>zao 1 g Z (.bool true) fun aa=>zaB PP Ce [(0,f),(1,(.int .i64 0))] fun ab=>zam 2 [.int .i64 0,.int .i64 0] 1 [(0,ab)] aa fun ac ad=>zaJ 2 16 (a.getD 1 undef) ac ad fun ae af=>some (.next,[(a.getD 0 undef),ae],af)) (some (.next,[(a.getD 0 undef),(a.getD 1 undef)],g))))))))))) (some (.exit 4,[(a.getD 0 undef),(a.getD 1 undef)],c))
noncomputable def zaR(R:zag)(h:Value)(i:Value)(e:Value)(j:Value)(a:List Value)(c:Hp):Option Outc:=pBin PP .lss Aa (a.getD 2 undef) j fun k=>zaa k fun l=>br l (pIdx 1 i (a.getD 2 undef) fun m=>zal 1 false c m fun f=>pIdx 1 e f fun n=>zal 1 false c n fun o=>zaa o fun p=>br p (pBin PP .add Aa (a.getD 2 undef) (.int .i64 1) fun q=>some (.next,[(a.getD 0 undef),(a.getD 1 undef),q],c)) (pIdx 1 e f fun r=>zao 1 c r (.bool true) fun s=>zaB PP Ce [(0,f),(1,(.int .i64 0))] fun t=>zam 2 [.int .i64 0,.int .i64 0] 1 [(0,t)] s fun u v=>zaJ 2 16 (a.getD 1 undef) u v fun w x=>zau (zat (zax R h e) [(a.getD 0 undef),w] x) fun y b d=>zaC y none (fun g=>zav g 4 (pBin PP .add Aa (a.getD 2 undef) (.int .i64 1) fun z=>some (.next,[(b.getD 0 undef),(b.getD 1 undef),z],d)) (zav g 3 (pBin PP .add Aa (a.getD 2 undef) (.int .i64 1) fun A=>some (.next,[(b.getD 0 undef),(b.getD 1 undef),A],d)) (some (.exit g,[(b.getD 0 undef),(b.getD 1 undef),(a.getD 2 undef)],d)))) (some (.ret,[(b.headD undef)],d)))) (some (.exit 2,[(a.getD 0 undef),(a.getD 1 undef),(a.getD 2 undef)],c))
theorem zem(R:zag)(a b:Value)(d:Hp):zej R a b d =
pLen .sl b d fun i=>zau (zat (zaS R a b i) [(.int .i64 0)] d) fun j k c=>zaC j none (fun l=>zav l 0 (pNil a (zas 1 a fun m=>zal 1 false c m fun n=>pLen .sl n c fun o=>pBin PP .add Aa o (.int .i64 1) fun e=>zaZ 1 1 [.bool false] e e c fun p f=>pLen .sl b f fun q=>zau (zat (zaR R a b p q) [(.slice none 0 0),(.slice none 0 0),(.int .i64 0)] f) fun r g h=>zaC r none (fun s=>zav s 2 (some ((.tuple #[(g.getD 0 undef),(.int .i64 0)]),h)) (none)) (some ((g.headD undef),h)))) (none)) (some ((k.headD undef),c)):=by kernel_rfl
noncomputable def zbW(R:zag)(g:Value)(d:Value)(h:Value)(b:List Value)(a:Hp):Option Outc:=pBin PP .lss Aa (b.getD 0 undef) h fun i=>zaa i fun j=>br j (pIdx 3 g (b.getD 0 undef) fun k=>zal 3 true a k fun l=>zaV 3 [.string ⟨#[]⟩,.int .i64 0,.int .u64 0] 0 l fun c=>zai 1 false c 0 fun m=>zbj PP Ac (.agg #[.string ⟨#[]⟩,.int .i64 0,.int .u64 0]) d m true a fun e=>zaf e 0 fun n=>zaf e 1 fun o=>zaV 3 [.string ⟨#[]⟩,.int .i64 0,.int .u64 0] 0 n fun y=>zaa o fun p=>br p (some (.ret,[(.tuple #[(.map none),(.int .i64 72)])],a)) (zai 1 false c 0 fun q=>zad R Bc [q] a fun r f=>pUn .not r fun s=>zaa s fun t=>br t (some (.ret,[(.tuple #[(.map none),(.int .i64 72)])],f)) (zai 1 false c 0 fun u=>zai 3 true c 0 fun v=>pUpd PP Ac d u v f fun w=>pBin PP .add Aa (b.getD 0 undef) (.int .i64 1) fun x=>some (.next,[x],w)))) (some (.exit 0,[(b.getD 0 undef)],a))
noncomputable def zbV(R:zag)(e:Value)(f:Value)(c:List Value)(a:Hp):Option Outc:=pBin PP .lss Aa (c.getD 0 undef) f fun g=>zaa g fun h=>br h (pIdx 3 e (c.getD 0 undef) fun i=>zal 3 true a i fun j=>zaV 3 [.string ⟨#[]⟩,.int .i64 0,.int .u64 0] 0 j fun b=>zai 1 false b 1 fun k=>pBin PP .lss Aa k (.int .i64 0) fun l=>zaa l fun m=>br m (some (.ret,[(.tuple #[(.map none),(.int .i64 5)])],a)) (zai 1 false b 1 fun n=>pBin PP .gtr Aa n (.int .i64 64) fun o=>zaa o fun p=>br p (some (.ret,[(.tuple #[(.map none),(.int .i64 5)])],a)) (zai 1 false b 1 fun q=>pMM true [q,(.int .i64 1)] fun r=>zai 1 false b 2 fun s=>zad R Af [r,s] a fun t d=>zai 1 false b 2 fun u=>pBin PP .neq Ab t u fun v=>zaa v fun w=>br w (some (.ret,[(.tuple #[(.map none),(.int .i64 5)])],d)) (pBin PP .add Aa (c.getD 0 undef) (.int .i64 1) fun x=>some (.next,[x],d))))) (some (.exit 2,[(c.getD 0 undef)],a))
theorem zod(R:zag)(a:Value)(b:Hp):zi9 R a b =
pLen .sl a b fun g=>zgh g (zbY b fun d e=>pLen .sl a e fun h=>zau (zat (zbW R a d h) [(.int .i64 0)] e) fun i j c=>zaC i none (fun k=>zav k 0 (pLen .sl a c fun l=>zau (zat (zbV R a l) [(.int .i64 0)] c) fun m n f=>zaC m none (fun o=>zav o 2 (some ((.tuple #[d,(.int .i64 0)]),f)) (none)) (some ((n.headD undef),f))) (none)) (some ((j.headD undef),c))):=by kernel_rfl
noncomputable def za9(R:zag)(d:Value)(e:Value)(c:List Value)(b:Hp):Option Outc:=pBin PP .lss Aa (c.getD 1 undef) (.int .i64 3) fun f=>zaa f fun g=>br g (zcx 3 false 1 e (c.getD 1 undef) fun a=>pNil a (zal 1 false b a fun h=>pBin PP .neq Aa h (.int .i64 0) fun i=>zaa i fun j=>br j (zaa (c.getD 0 undef) fun k=>br k (pNil a (zal 1 false b a fun l=>zbj PP Aa (.int .i64 0) d l false b fun m=>pNil a (zao 1 b a m fun n=>pBin PP .add Aa (c.getD 1 undef) (.int .i64 1) fun o=>some (.next,[(.bool true),o],n)))) (pNil a (zal 1 false b a fun p=>zbj PP Aa (.int .i64 0) d p false b fun q=>pNil a (zal 1 false b a fun r=>pBin PP .neq Aa q r fun s=>pNil a (zal 1 false b a fun t=>zbj PP Aa (.int .i64 0) d t false b fun u=>pNil a (zao 1 b a u fun v=>pBin PP .add Aa (c.getD 1 undef) (.int .i64 1) fun w=>some (.next,[s,w],v))))))) (pBin PP .add Aa (c.getD 1 undef) (.int .i64 1) fun x=>some (.next,[(c.getD 0 undef),x],b)))) (some (.exit 2,[(c.getD 0 undef),(c.getD 1 undef)],b))
noncomputable def zbq(R:zag)(u:Value)(v:Value)(w:Value)(x:Value)(y:Value)(d:Value)(z:Value)(a:List Value)(h:Hp):Option Outc:=pBin PP .lss Aa (a.getD 0 undef) z fun A=>zaa A fun B=>br B (pIdx 1 y (a.getD 0 undef) fun C=>zal 1 false h C fun c=>zad R Av [u,c] h fun l D=>zaf l 0 fun E=>zaf l 1 fun ak=>zcI [.int .i64 0,.int .i64 0,.int .i64 0,.int .i64 0,.int .i64 0,.int .u64 0,.string ⟨#[]⟩] D fun b F=>zao 7 F b E fun e=>zau (zas 0 b fun G=>zal 1 false e G fun H=>pBin PP .eql Aa H (.int .i64 4) fun I=>zaa I fun J=>br J (zal 7 true e b fun K=>zdI orc R x [K] e fun m i=>zaf m 0 fun n=>zaf m 1 fun o=>pBin PP .neq Ak o (.int .i64 0) fun L=>zaa L fun M=>br M (zaB PP AO [(0,o)] fun N=>some (.ret,[(.tuple #[(.slice none 0 0),(.iface AO N)])],i)) (pBin PP .neq Aa n (.int .i64 0) fun O=>zaa O fun P=>br P (pUpd PP Aa d c n i fun Q=>some (.exit 1,[],Q)) (some (.next,[],i)))) (some (.next,[],e))) fun S T f=>zaC S (zas 2 b fun U=>zas 3 b fun V=>zas 4 b fun W=>zaB PP A7 [(0,U),(1,V),(2,W)] fun X=>zau (zat (za9 R d X) [w,(.int .i64 0)] f) fun Y p g=>zaC Y none (fun j=>zav j 2 (pUpd PP Aa d c c g fun k=>zaa (p.getD 0 undef) fun Z=>br Z (zal 7 true k b fun aa=>zad R Au [v,aa] k fun q r=>zaf q 0 fun ab=>zaf q 1 fun s=>pBin PP .neq Ak s (.int .i64 0) fun ac=>zaa ac fun ad=>br ad (zaB PP AO [(0,s)] fun ae=>some (.ret,[(.tuple #[(.slice none 0 0),(.iface AO ae)])],r)) (pUpd PP Aa d c ab r fun af=>pBin PP .add Aa (a.getD 0 undef) (.int .i64 1) fun ag=>some (.next,[ag],af))) (pBin PP .add Aa (a.getD 0 undef) (.int .i64 1) fun ah=>some (.next,[ah],k))) (zav j 1 (pBin PP .add Aa (a.getD 0 undef) (.int .i64 1) fun ai=>some (.next,[ai],g)) (some (.exit j,[(a.getD 0 undef)],g)))) (some (.ret,[(p.headD undef)],g))) (fun t=>zav t 1 (pBin PP .add Aa (a.getD 0 undef) (.int .i64 1) fun aj=>some (.next,[aj],f)) (some (.exit t,[(a.getD 0 undef)],f))) (some (.ret,[(T.headD undef)],f))) (some (.exit 0,[(a.getD 0 undef)],h))
noncomputable def zbp(R:zag)(c:Value)(d:Value)(e:Value)(a:List Value)(b:Hp):Option Outc:=pBin PP .lss Aa (a.getD 1 undef) e fun f=>zaa f fun g=>br g (pIdx 1 c (a.getD 1 undef) fun h=>zal 1 false b h fun i=>zbj PP Aa (.int .i64 0) d i false b fun j=>zam 1 [.int .i64 0] 1 [(0,j)] b fun k l=>zaJ 1 8 (a.getD 0 undef) k l fun m n=>pBin PP .add Aa (a.getD 1 undef) (.int .i64 1) fun o=>some (.next,[m,o],n)) (some (.exit 4,[(a.getD 0 undef),(a.getD 1 undef)],b))
theorem zlH(R:zag)(b f a g h:Value)(i:Hp):zgO R b f a g h i =
zad R Aw [b,a] i fun j c=>zaf j 0 fun d=>zaf j 1 fun k=>pBin PP .neq Ak k (.int .i64 0) fun q=>zaa q fun r=>br r (zaB PP AO [(0,k)] fun s=>some ((.tuple #[(.slice none 0 0),(.iface AO s)]),c)) (pLen .sl d c fun t=>zgh t (zbY c fun l m=>pLen .sl d m fun u=>zau (zat (zbq R b f g h d l u) [(.int .i64 0)] m) fun v w e=>zaC v none (fun x=>zav x 0 (pLen .sl a e fun y=>zaZ 1 8 [.int .i64 0] (.int .i64 0) y e fun z n=>pLen .sl a n fun A=>zau (zat (zbp R a l A) [z,(.int .i64 0)] n) fun B o p=>zaC B none (fun C=>zav C 4 (some ((.tuple #[(o.getD 0 undef),.nilIface]),p)) (none)) (some ((o.headD undef),p))) (none)) (some ((w.headD undef),e)))):=by kernel_rfl
noncomputable def zaK(R:zag)(d:Value)(a:List Value)(c:Hp):Option Outc:=br (Nat.blt (za1 ((a.drop 2).getD 0 undef)) (za4 ((a.drop 2).getD 0 undef)).size) (zdI orc R d [(.int .i32 (Utf8.decode (za4 ((a.drop 2).getD 0 undef)) (za1 ((a.drop 2).getD 0 undef))).1)] c fun e b=>zaa e fun f=>br f (pBin PP .geq Aa (a.getD 1 undef) (.int .i64 0) fun g=>zaa g fun h=>br h (zaB PP Ba [(0,(a.getD 1 undef)),(1,(.int .i64 ((za1 ((a.drop 2).getD 0 undef)):Nat)))] fun i=>zam 2 [.int .i64 0,.int .i64 0] 1 [(0,i)] b fun j k=>zaJ 2 16 (a.getD 0 undef) j k fun l m=>pUn .xor (a.getD 1 undef) fun n=>some (.next,[l,n,(.tuple #[.string (za4 ((a.drop 2).getD 0 undef)),.int .i64 (((za1 ((a.drop 2).getD 0 undef))+(Utf8.decode (za4 ((a.drop 2).getD 0 undef)) (za1 ((a.drop 2).getD 0 undef))).2):Nat)])],m)) (some (.next,[(a.getD 0 undef),(a.getD 1 undef),(.tuple #[.string (za4 ((a.drop 2).getD 0 undef)),.int .i64 (((za1 ((a.drop 2).getD 0 undef))+(Utf8.decode (za4 ((a.drop 2).getD 0 undef)) (za1 ((a.drop 2).getD 0 undef))).2):Nat)])],b))) (pBin PP .lss Aa (a.getD 1 undef) (.int .i64 0) fun o=>zaa o fun p=>br p (some (.next,[(a.getD 0 undef),(.int .i64 ((za1 ((a.drop 2).getD 0 undef)):Nat)),(.tuple #[.string (za4 ((a.drop 2).getD 0 undef)),.int .i64 (((za1 ((a.drop 2).getD 0 undef))+(Utf8.decode (za4 ((a.drop 2).getD 0 undef)) (za1 ((a.drop 2).getD 0 undef))).2):Nat)])],b)) (some (.next,[(a.getD 0 undef),(a.getD 1 undef),(.tuple #[.string (za4 ((a.drop 2).getD 0 undef)),.int .i64 (((za1 ((a.drop 2).getD 0 undef))+(Utf8.decode (za4 ((a.drop 2).getD 0 undef)) (za1 ((a.drop 2).getD 0 undef))).2):Nat)])],b)))) (some (.exit 0,[(a.getD 0 undef),(a.getD 1 undef),(.tuple #[.string (za4 ((a.drop 2).getD 0 undef)),.int .i64 ((za1 ((a.drop 2).getD 0 undef)):Nat)])],c))
noncomputable def zaT(R:zag)(d:Value)(e:Value)(f:Value)(g:List Value)(a:List Value)(b:Hp):Option Outc:=pBin PP .lss Aa (a.getD 0 undef) f fun h=>zaa h fun i=>br i (pIdx 2 (g.getD 0 undef) (a.getD 0 undef) fun j=>zal 2 true b j fun k=>zaV 2 [.int .i64 0,.int .i64 0] 0 k fun c=>zai 1 false c 0 fun l=>zai 1 false c 1 fun m=>za5 d (some l) (some m) fun n=>pIdx 1 e (a.getD 0 undef) fun o=>zao 1 b o n fun p=>pBin PP .add Aa (a.getD 0 undef) (.int .i64 1) fun q=>some (.next,[q],p)) (some (.exit 2,[(a.getD 0 undef)],b))
theorem zfN(R:zag)(b f:Value)(g:Hp):zdy R b f g =
zaZ 2 16 [.int .i64 0,.int .i64 0] (.int .i64 0) (.int .i64 32) g fun l m=>zjX b fun s3=>zau (zat (zaK R f) [l,(.int .i64 (-1)),(.tuple #[.string s3,.int .i64 (0:Nat)])] m) fun n a c=>zaC n none (fun o=>zav o 0 (zau (pBin PP .geq Aa (a.getD 1 undef) (.int .i64 0) fun p=>zaa p fun q=>br q (pLen .str b c fun r=>zaB PP Ba [(0,(a.getD 1 undef)),(1,r)] fun s=>zam 2 [.int .i64 0,.int .i64 0] 1 [(0,s)] c fun t u=>zaJ 2 16 (a.getD 0 undef) t u fun v w=>some (.next,[v],w)) (some (.next,[(a.getD 0 undef)],c))) fun x d e=>zaC x (pLen .sl (d.getD 0 undef) e fun h=>zaZ 1 16 [.string ⟨#[]⟩] h h e fun i j=>pLen .sl (d.getD 0 undef) j fun y=>zau (zat (zaT R b i y d) [(.int .i64 0)] j) fun z A k=>zaC z none (fun B=>zav B 2 (some (i,k)) (none)) (some ((A.headD undef),k))) (fun C=>none) (some ((d.headD undef),e))) (none)) (some ((a.headD undef),c)):=by kernel_rfl
noncomputable def zaL(R:zag)(e:Value)(f:Value)(b:Value)(a:List Value)(c:Hp):Option Outc:=pBin PP .lss Aa (a.getD 0 undef) f fun g=>zaa g fun h=>br h (zas 2 b fun i=>zas 3 b fun j=>zas 4 b fun k=>zaB PP A7 [(0,i),(1,j),(2,k)] fun l=>zcx 3 false 1 l (a.getD 0 undef) fun d=>zbh R BD [e] c (fun m n=>some (.ret,[(W0 m)],n)) fun o p=>pNil d (zao 1 p d o fun q=>pBin PP .add Aa (a.getD 0 undef) (.int .i64 1) fun r=>some (.next,[r],q))) (some (.exit 1,[(a.getD 0 undef)],c))
theorem zgV(R:zag)(a:Value)(k:Hp):zei R a k =
zbh R Ap [a] k (fun x y=>some ((W0 x),y)) fun z A=>zbh R BC [z] A (fun B C=>some ((W0 B),C)) fun D E=>zaB PP Ao [(0,D)] fun F=>zcI [.int .i64 0,.int .i64 0,.int .i64 0,.int .i64 0,.int .i64 0,.int .u64 0,.string ⟨#[]⟩] E fun b G=>zao 7 G b F fun g=>zau (zas 0 b fun H=>zal 1 false g H fun l=>pBin PP .eql Aa l (.int .i64 3) fun I=>zaa I fun J=>br J (zbh R An [a] g (fun K L=>some (.ret,[(W0 K)],L)) fun M N=>zas 1 b fun O=>zao 1 N O M fun P=>zbh R Ap [a] P (fun Q S=>some (.ret,[(W0 Q)],S)) fun T U=>zad R AP [T] U fun m n=>zaf m 0 fun V=>zaf m 1 fun W=>pBin PP .neq Ak W (.int .i64 0) fun X=>zaa X fun Y=>br Y (zaB PP Ae [(0,(.int .i64 3))] fun Z=>some (.ret,[(W0 (.iface Ae Z))],n)) (zas 5 b fun aa=>zao 1 n aa V fun ab=>some (.next,[],ab))) (pBin PP .eql Aa l (.int .i64 4) fun ac=>zaa ac fun ad=>br ad (zbh R Ap [a] g (fun ae af=>some (.ret,[(W0 ae)],af)) fun ag ah=>zas 6 b fun ai=>zao 1 ah ai ag fun aj=>zbh R An [a] aj (fun ak al=>some (.ret,[(W0 ak)],al)) fun am ao=>zas 1 b fun ap=>zao 1 ao ap am fun aq=>some (.next,[],aq)) (some (.next,[],g)))) fun ar au h=>zaC ar (zas 0 b fun av=>zal 1 false h av fun aw=>zad R Ax [aw] h fun ax ay=>zau (zat (zaL R a ax b) [(.int .i64 0)] ay) fun az ba f=>zaC az none (fun bb=>zav bb 1 (zau (zas 0 b fun bc=>zal 1 false f bc fun d=>pBin PP .eql Aa d (.int .i64 31) fun bd=>zaa bd fun be=>br be (zbh R An [a] f (fun bf bg=>some (.ret,[(W0 bf)],bg)) fun bh bi=>zaj .u64 bh fun bj=>zas 5 b fun bk=>zao 1 bi bk bj fun bl=>zbh R An [a] bl (fun bm bn=>some (.ret,[(W0 bm)],bn)) fun bo bp=>zas 1 b fun bq=>zao 1 bp bq bo fun bs=>some (.next,[],bs)) (zau (pBin PP .eql Aa d (.int .i64 32) fun bt=>zaa bt fun bu=>br bu (some (.next,[(.bool true)],f)) (pBin PP .eql Aa d (.int .i64 33) fun bv=>some (.next,[bv],f))) fun bw o c=>zaC bw (zaa (o.getD 0 undef) fun bx=>br bx (zbh R An [a] c (fun bz ca=>some (.ret,[(W0 bz)],ca)) fun cb cc=>zas 1 b fun cd=>zao 1 cc cd cb fun ce=>some (.next,[],ce)) (pBin PP .eql Aa d (.int .i64 14) fun cf=>zaa cf fun cg=>br cg (pNil a (zas 0 a fun ch=>zal 1 false c ch fun ci=>zas 3 b fun cj=>zal 1 false c cj fun ck=>zad R Aj [ci,ck] c fun cl cm=>zas 1 b fun cn=>zao 1 cm cn cl fun co=>some (.next,[],co))) (pBin PP .eql Aa d (.int .i64 30) fun cp=>zaa cp fun cq=>br cq (pNil a (zas 0 a fun cr=>zal 1 false c cr fun cs=>zas 2 b fun ct=>zal 1 false c ct fun cu=>zad R Aj [cs,cu] c fun cv i=>pNil a (zas 0 a fun p=>zal 1 false i p fun q=>chk (Hp.rdP c p 1 false=some q) (zas 3 b fun r=>zal 1 false i r fun s=>chk (Hp.rdP c r 1 false=some s) (zad R Aj [q,s] i fun cw cx=>pBin PP .add Aa cv cw fun cy=>pMM false [cy,(.int .i64 65)] fun cz=>zas 1 b fun da=>zao 1 cx da cz fun j=>zas 1 b fun db=>zal 1 false j db fun dc=>pBin PP .gtr Aa dc (.int .i64 64) fun dd=>zaa dd fun de=>br de (zas 1 b fun df=>zao 1 j df (.int .i64 0) fun dg=>some (.next,[],dg)) (some (.next,[],j))))))) (pBin PP .geq Aa d (.int .i64 15) fun dh=>zaa dh fun di=>br di (pBin PP .leq Aa d (.int .i64 29) fun dj=>zaa dj fun dk=>br dk (pNil a (zas 0 a fun dl=>zal 1 false c dl fun dm=>zas 2 b fun dn=>zal 1 false c dn fun dp=>zad R Aj [dm,dp] c fun dq dr=>zas 1 b fun ds=>zao 1 dr ds dq fun dt=>some (.next,[],dt))) (some (.next,[],c))) (some (.next,[],c)))))) (fun t=>zav t 3 (some (.next,[],c)) (some (.exit t,[],c))) (some (.ret,[(o.headD undef)],c)))) fun du dv e=>zaC du (pNil a (zas 1 a fun dw=>zal 1 false e dw fun dx=>pLen .sl dx e fun dy=>pBin PP .gtr Aa dy (.int .i64 0) fun dz=>zaa dz fun ea=>br ea (zaB PP Ae [(0,(.int .i64 3))] fun eb=>some ((W0 (.iface Ae eb)),e)) (pNil a (zas 0 a fun ec=>zal 1 false e ec fun ed=>zal 7 true e b fun ee=>zad R Au [ed,ee] e fun u v=>zaf u 0 fun ef=>zaf u 1 fun w=>pBin PP .neq Ak w (.int .i64 0) fun eg=>zaa eg fun eh=>br eh (zaB PP Ae [(0,w)] fun ei=>some ((W0 (.iface Ae ei)),v)) (some ((W1 ef),v)))))) (fun ej=>none) (some ((dv.headD undef),e))) (none)) (some ((ba.headD undef),f))) (fun ek=>none) (some ((au.headD undef),h)):=by kernel_rfl
noncomputable def zba(R:zag)(c:Value)(g:Value)(h:Value)(i:Value)(a:List Value)(d:Hp):Option Outc:=pBin PP .lss Aa (a.getD 1 undef) i fun j=>zaa j fun k=>br k (zad R A3 [(a.getD 0 undef),c] d fun b e=>pBin PP .lss Aa b (.int .i64 0) fun l=>zaa l fun m=>br m (some (.exit 0,[(a.getD 0 undef),(a.getD 1 undef)],e)) (pBin PP .add Aa b g fun n=>za5 (a.getD 0 undef) none (some n) fun o=>pIdx 1 h (a.getD 1 undef) fun p=>zao 1 e p o fun f=>pLen .str c f fun q=>pBin PP .add Aa b q fun r=>za5 (a.getD 0 undef) (some r) none fun s=>pBin PP .add Aa (a.getD 1 undef) (.int .i64 1) fun t=>some (.next,[s,t],f))) (some (.exit 0,[(a.getD 0 undef),(a.getD 1 undef)],d))
theorem zgW(R:zag)(a d i b:Value)(c:Hp):zek R a d i b c =
pBin PP .eql Aa b (.int .i64 0) fun l=>zaa l fun m=>br m (some ((.slice none 0 0),c)) (pBin PP .eql Ac d (.string ⟨#[]⟩) fun n=>zaa n fun o=>br o (zad R Ct [a,b] c fun p q=>some (p,q)) (zau (pBin PP .lss Aa b (.int .i64 0) fun r=>zaa r fun s=>br s (zad R Bw [a,d] c fun t u=>pBin PP .add Aa t (.int .i64 1) fun v=>some (.next,[v],u)) (some (.next,[b],c))) fun w j f=>zaC w (pLen .str a f fun x=>pBin PP .add Aa x (.int .i64 1) fun y=>pMM false [(j.getD 0 undef),y] fun g=>zaZ 1 16 [.string ⟨#[]⟩] g g f fun h z=>pBin PP .sub Aa g (.int .i64 1) fun A=>zau (zat (zba R d i h A) [a,(.int .i64 0)] z) fun B e k=>zaC B none (fun C=>zav C 0 (pIdx 1 h (e.getD 1 undef) fun D=>zao 1 k D (e.getD 0 undef) fun E=>pBin PP .add Aa (e.getD 1 undef) (.int .i64 1) fun F=>zdw 1 h none (some F) fun G=>some (G,E)) (none)) (some ((e.headD undef),k))) (fun H=>none) (some ((j.headD undef),f)))):=by kernel_rfl
noncomputable def zbf(R:zag)(a:List Value)(b:Hp):Option Outc:=br (Nat.blt (za1 ((a.drop 0).getD 0 undef)) (za4 ((a.drop 0).getD 0 undef)).size) (pBin PP .eql Ag (.int .i32 (Utf8.decode (za4 ((a.drop 0).getD 0 undef)) (za1 ((a.drop 0).getD 0 undef))).1) (.int .i32 95) fun c=>zaa c fun d=>br d (some (.ret,[(.tuple #[(.int .u64 0),(.int .i64 10)])],b)) (pBin PP .eql Ag (.int .i32 (Utf8.decode (za4 ((a.drop 0).getD 0 undef)) (za1 ((a.drop 0).getD 0 undef))).1) (.int .i32 43) fun e=>zaa e fun f=>br f (some (.ret,[(.tuple #[(.int .u64 0),(.int .i64 10)])],b)) (pBin PP .eql Ag (.int .i32 (Utf8.decode (za4 ((a.drop 0).getD 0 undef)) (za1 ((a.drop 0).getD 0 undef))).1) (.int .i32 45) fun g=>zaa g fun h=>br h (some (.ret,[(.tuple #[(.int .u64 0),(.int .i64 10)])],b)) (some (.next,[(.tuple #[.string (za4 ((a.drop 0).getD 0 undef)),.int .i64 (((za1 ((a.drop 0).getD 0 undef))+(Utf8.decode (za4 ((a.drop 0).getD 0 undef)) (za1 ((a.drop 0).getD 0 undef))).2):Nat)])],b))))) (some (.exit 0,[(.tuple #[.string (za4 ((a.drop 0).getD 0 undef)),.int .i64 ((za1 ((a.drop 0).getD 0 undef)):Nat)])],b))
theorem zlJ(R:zag)(a:Value)(b:Hp):zgT R a b =
zad R B3 [a,(.string ⟨#[48,120]⟩)] b fun c d=>zaf c 0 fun e=>zaf c 1 fun k=>zau (zaa k fun l=>br l (some (.next,[(.int .i64 16)],d)) (some (.next,[(.int .i64 10)],d))) fun m f g=>zaC m (zjX e fun s10=>zau (zat (zbf R) [(.tuple #[.string s10,.int .i64 (0:Nat)])] g) fun n o h=>zaC n none (fun p=>zav p 0 (zad R Bs [e,(f.getD 0 undef),(.int .i64 64)] h fun i j=>zaf i 0 fun q=>zaf i 1 fun r=>zdW PP .neq AG r fun s=>zaa s fun t=>br t (some ((.tuple #[(.int .u64 0),(.int .i64 10)]),j)) (some ((.tuple #[q,(.int .i64 0)]),j))) (none)) (some ((o.headD undef),h))) (fun u=>none) (some ((f.headD undef),g)):=by kernel_rfl
noncomputable def zaH(R:zag)(c:Value)(d:Value)(e:Value)(a:List Value)(b:Hp):Option Outc:=pBin PP .lss Aa (a.getD 1 undef) d fun f=>zaa f fun g=>br g (pIdx 1 e (a.getD 1 undef) fun h=>zal 1 false b h fun i=>pBin PP .gtr Aa (a.getD 1 undef) (.int .i64 0) fun j=>zaa j fun k=>br k (pBin PP .eql Ac i c fun l=>zaa l fun m=>br m (some (.ret,[(W1 (a.getD 1 undef))],b)) (pBin PP .add Aa (a.getD 1 undef) (.int .i64 1) fun n=>some (.next,[(a.getD 0 undef),n],b))) (pBin PP .add Aa (a.getD 1 undef) (.int .i64 1) fun o=>some (.next,[(a.getD 0 undef),o],b))) (some (.exit 0,[(a.getD 0 undef),(a.getD 1 undef)],b))
theorem zh3(R:zag)(a:Value)(b:Hp):ze8 R a b =
zad R A5 [] b fun c d=>pLen .sl c d fun f=>zau (zat (zaH R a f c) [(.int .i64 0),(.int .i64 0)] d) fun g h e=>zaC g none (fun i=>zav i 0 (zaB PP Ae [(0,(.int .i64 3))] fun j=>some ((W0 (.iface Ae j)),e)) (none)) (some ((h.headD undef),e)):=by kernel_rfl
noncomputable def zaX(R:zag)(b:Value)(a:List Value)(c:Hp):Option Outc:=pBin PP .geq Aa (a.getD 1 undef) (.int .i64 8) fun k=>zaa k fun l=>br l (pBin PP .rem Ab (a.getD 0 undef) (.int .u64 100000000) fun m=>zaj .u32 m fun d=>pBin PP .quo Ab (a.getD 0 undef) (.int .u64 100000000) fun n=>pBin PP .quo Ah d (.int .u32 10000) fun e=>pBin PP .rem Ah d (.int .u32 10000) fun f=>pBin PP .quo Ah f (.int .u32 100) fun o=>pBin PP .mul Ah o (.int .u32 2) fun g=>pBin PP .rem Ah f (.int .u32 100) fun p=>pBin PP .mul Ah p (.int .u32 2) fun h=>pBin PP .quo Ah e (.int .u32 100) fun q=>pBin PP .mul Ah q (.int .u32 2) fun i=>pBin PP .rem Ah e (.int .u32 100) fun r=>pBin PP .mul Ah r (.int .u32 2) fun j=>pBin PP .sub Aa (a.getD 1 undef) (.int .i64 1) fun s=>pBin PP .sub Aa (a.getD 1 undef) (.int .i64 2) fun t=>pBin PP .add Ah h (.int .u32 1) fun u=>zaY (.string ⟨#[48,48,48,49,48,50,48,51,48,52,48,53,48,54,48,55,48,56,48,57,49,48,49,49,49,50,49,51,49,52,49,53,49,54,49,55,49,56,49,57,50,48,50,49,50,50,50,51,50,52,50,53,50,54,50,55,50,56,50,57,51,48,51,49,51,50,51,51,51,52,51,53,51,54,51,55,51,56,51,57,52,48,52,49,52,50,52,51,52,52,52,53,52,54,52,55,52,56,52,57,53,48,53,49,53,50,53,51,53,52,53,53,53,54,53,55,53,56,53,57,54,48,54,49,54,50,54,51,54,52,54,53,54,54,54,55,54,56,54,57,55,48,55,49,55,50,55,51,55,52,55,53,55,54,55,55,55,56,55,57,56,48,56,49,56,50,56,51,56,52,56,53,56,54,56,55,56,56,56,57,57,48,57,49,57,50,57,51,57,52,57,53,57,54,57,55,57,56,57,57]⟩) u fun v=>zaY (.string ⟨#[48,48,48,49,48,50,48,51,48,52,48,53,48,54,48,55,48,56,48,57,49,48,49,49,49,50,49,51,49,52,49,53,49,54,49,55,49,56,49,57,50,48,50,49,50,50,50,51,50,52,50,53,50,54,50,55,50,56,50,57,51,48,51,49,51,50,51,51,51,52,51,53,51,54,51,55,51,56,51,57,52,48,52,49,52,50,52,51,52,52,52,53,52,54,52,55,52,56,52,57,53,48,53,49,53,50,53,51,53,52,53,53,53,54,53,55,53,56,53,57,54,48,54,49,54,50,54,51,54,52,54,53,54,54,54,55,54,56,54,57,55,48,55,49,55,50,55,51,55,52,55,53,55,54,55,55,55,56,55,57,56,48,56,49,56,50,56,51,56,52,56,53,56,54,56,55,56,56,56,57,57,48,57,49,57,50,57,51,57,52,57,53,57,54,57,55,57,56,57,57]⟩) h fun w=>pIdx 1 b s fun x=>zao 1 c x v fun y=>pIdx 1 b t fun z=>zao 1 y z w fun A=>pBin PP .sub Aa (a.getD 1 undef) (.int .i64 3) fun B=>pBin PP .sub Aa (a.getD 1 undef) (.int .i64 4) fun C=>pBin PP .add Ah g (.int .u32 1) fun D=>zaY (.string ⟨#[48,48,48,49,48,50,48,51,48,52,48,53,48,54,48,55,48,56,48,57,49,48,49,49,49,50,49,51,49,52,49,53,49,54,49,55,49,56,49,57,50,48,50,49,50,50,50,51,50,52,50,53,50,54,50,55,50,56,50,57,51,48,51,49,51,50,51,51,51,52,51,53,51,54,51,55,51,56,51,57,52,48,52,49,52,50,52,51,52,52,52,53,52,54,52,55,52,56,52,57,53,48,53,49,53,50,53,51,53,52,53,53,53,54,53,55,53,56,53,57,54,48,54,49,54,50,54,51,54,52,54,53,54,54,54,55,54,56,54,57,55,48,55,49,55,50,55,51,55,52,55,53,55,54,55,55,55,56,55,57,56,48,56,49,56,50,56,51,56,52,56,53,56,54,56,55,56,56,56,57,57,48,57,49,57,50,57,51,57,52,57,53,57,54,57,55,57,56,57,57]⟩) D fun E=>zaY (.string ⟨#[48,48,48,49,48,50,48,51,48,52,48,53,48,54,48,55,48,56,48,57,49,48,49,49,49,50,49,51,49,52,49,53,49,54,49,55,49,56,49,57,50,48,50,49,50,50,50,51,50,52,50,53,50,54,50,55,50,56,50,57,51,48,51,49,51,50,51,51,51,52,51,53,51,54,51,55,51,56,51,57,52,48,52,49,52,50,52,51,52,52,52,53,52,54,52,55,52,56,52,57,53,48,53,49,53,50,53,51,53,52,53,53,53,54,53,55,53,56,53,57,54,48,54,49,54,50,54,51,54,52,54,53,54,54,54,55,54,56,54,57,55,48,55,49,55,50,55,51,55,52,55,53,55,54,55,55,55,56,55,57,56,48,56,49,56,50,56,51,56,52,56,53,56,54,56,55,56,56,56,57,57,48,57,49,57,50,57,51,57,52,57,53,57,54,57,55,57,56,57,57]⟩) g fun F=>pIdx 1 b B fun G=>zao 1 A G E fun H=>pIdx 1 b C fun I=>zao 1 H I F fun J=>pBin PP .sub Aa (a.getD 1 undef) (.int .i64 5) fun K=>pBin PP .sub Aa (a.getD 1 undef) (.int .i64 6) fun L=>pBin PP .add Ah j (.int .u32 1) fun M=>zaY (.string ⟨#[48,48,48,49,48,50,48,51,48,52,48,53,48,54,48,55,48,56,48,57,49,48,49,49,49,50,49,51,49,52,49,53,49,54,49,55,49,56,49,57,50,48,50,49,50,50,50,51,50,52,50,53,50,54,50,55,50,56,50,57,51,48,51,49,51,50,51,51,51,52,51,53,51,54,51,55,51,56,51,57,52,48,52,49,52,50,52,51,52,52,52,53,52,54,52,55,52,56,52,57,53,48,53,49,53,50,53,51,53,52,53,53,53,54,53,55,53,56,53,57,54,48,54,49,54,50,54,51,54,52,54,53,54,54,54,55,54,56,54,57,55,48,55,49,55,50,55,51,55,52,55,53,55,54,55,55,55,56,55,57,56,48,56,49,56,50,56,51,56,52,56,53,56,54,56,55,56,56,56,57,57,48,57,49,57,50,57,51,57,52,57,53,57,54,57,55,57,56,57,57]⟩) M fun N=>zaY (.string ⟨#[48,48,48,49,48,50,48,51,48,52,48,53,48,54,48,55,48,56,48,57,49,48,49,49,49,50,49,51,49,52,49,53,49,54,49,55,49,56,49,57,50,48,50,49,50,50,50,51,50,52,50,53,50,54,50,55,50,56,50,57,51,48,51,49,51,50,51,51,51,52,51,53,51,54,51,55,51,56,51,57,52,48,52,49,52,50,52,51,52,52,52,53,52,54,52,55,52,56,52,57,53,48,53,49,53,50,53,51,53,52,53,53,53,54,53,55,53,56,53,57,54,48,54,49,54,50,54,51,54,52,54,53,54,54,54,55,54,56,54,57,55,48,55,49,55,50,55,51,55,52,55,53,55,54,55,55,55,56,55,57,56,48,56,49,56,50,56,51,56,52,56,53,56,54,56,55,56,56,56,57,57,48,57,49,57,50,57,51,57,52,57,53,57,54,57,55,57,56,57,57]⟩) j fun O=>pIdx 1 b K fun P=>zao 1 J P N fun Q=>pIdx 1 b L fun S=>zao 1 Q S O fun T=>pBin PP .sub Aa (a.getD 1 undef) (.int .i64 7) fun U=>pBin PP .sub Aa (a.getD 1 undef) (.int .i64 8) fun V=>pBin PP .add Ah i (.int .u32 1) fun W=>zaY (.string ⟨#[48,48,48,49,48,50,48,51,48,52,48,53,48,54,48,55,48,56,48,57,49,48,49,49,49,50,49,51,49,52,49,53,49,54,49,55,49,56,49,57,50,48,50,49,50,50,50,51,50,52,50,53,50,54,50,55,50,56,50,57,51,48,51,49,51,50,51,51,51,52,51,53,51,54,51,55,51,56,51,57,52,48,52,49,52,50,52,51,52,52,52,53,52,54,52,55,52,56,52,57,53,48,53,49,53,50,53,51,53,52,53,53,53,54,53,55,53,56,53,57,54,48,54,49,54,50,54,51,54,52,54,53,54,54,54,55,54,56,54,57,55,48,55,49,55,50,55,51,55,52,55,53,55,54,55,55,55,56,55,57,56,48,56,49,56,50,56,51,56,52,56,53,56,54,56,55,56,56,56,57,57,48,57,49,57,50,57,51,57,52,57,53,57,54,57,55,57,56,57,57]⟩) W fun X=>zaY (.string ⟨#[48,48,48,49,48,50,48,51,48,52,48,53,48,54,48,55,48,56,48,57,49,48,49,49,49,50,49,51,49,52,49,53,49,54,49,55,49,56,49,57,50,48,50,49,50,50,50,51,50,52,50,53,50,54,50,55,50,56,50,57,51,48,51,49,51,50,51,51,51,52,51,53,51,54,51,55,51,56,51,57,52,48,52,49,52,50,52,51,52,52,52,53,52,54,52,55,52,56,52,57,53,48,53,49,53,50,53,51,53,52,53,53,53,54,53,55,53,56,53,57,54,48,54,49,54,50,54,51,54,52,54,53,54,54,54,55,54,56,54,57,55,48,55,49,55,50,55,51,55,52,55,53,55,54,55,55,55,56,55,57,56,48,56,49,56,50,56,51,56,52,56,53,56,54,56,55,56,56,56,57,57,48,57,49,57,50,57,51,57,52,57,53,57,54,57,55,57,56,57,57]⟩) i fun Y=>pIdx 1 b U fun Z=>zao 1 T Z X fun aa=>pIdx 1 b V fun ab=>zao 1 aa ab Y fun ac=>pBin PP .sub Aa (a.getD 1 undef) (.int .i64 8) fun ad=>some (.next,[n,ad],ac)) (some (.exit 0,[(a.getD 0 undef),(a.getD 1 undef)],c))
theorem zc7(R:zag)(a h:Value)(e:Hp):zbR R a h e =
pLen .sl a e fun n=>zau (zat (zaX R a) [h,n] e) fun o b f=>zaC o none (fun p=>zav p 0 (zaj .u32 (b.getD 0 undef) fun g=>zau (pBin PP .geq Aa (b.getD 1 undef) (.int .i64 4) fun q=>zaa q fun r=>br r (pBin PP .rem Ah g (.int .u32 10000) fun i=>pBin PP .quo Ah g (.int .u32 10000) fun s=>pBin PP .quo Ah i (.int .u32 100) fun t=>pBin PP .mul Ah t (.int .u32 2) fun j=>pBin PP .rem Ah i (.int .u32 100) fun u=>pBin PP .mul Ah u (.int .u32 2) fun k=>pBin PP .sub Aa (b.getD 1 undef) (.int .i64 1) fun v=>pBin PP .sub Aa (b.getD 1 undef) (.int .i64 2) fun w=>pBin PP .add Ah k (.int .u32 1) fun x=>zaY (.string ⟨#[48,48,48,49,48,50,48,51,48,52,48,53,48,54,48,55,48,56,48,57,49,48,49,49,49,50,49,51,49,52,49,53,49,54,49,55,49,56,49,57,50,48,50,49,50,50,50,51,50,52,50,53,50,54,50,55,50,56,50,57,51,48,51,49,51,50,51,51,51,52,51,53,51,54,51,55,51,56,51,57,52,48,52,49,52,50,52,51,52,52,52,53,52,54,52,55,52,56,52,57,53,48,53,49,53,50,53,51,53,52,53,53,53,54,53,55,53,56,53,57,54,48,54,49,54,50,54,51,54,52,54,53,54,54,54,55,54,56,54,57,55,48,55,49,55,50,55,51,55,52,55,53,55,54,55,55,55,56,55,57,56,48,56,49,56,50,56,51,56,52,56,53,56,54,56,55,56,56,56,57,57,48,57,49,57,50,57,51,57,52,57,53,57,54,57,55,57,56,57,57]⟩) x fun y=>zaY (.string ⟨#[48,48,48,49,48,50,48,51,48,52,48,53,48,54,48,55,48,56,48,57,49,48,49,49,49,50,49,51,49,52,49,53,49,54,49,55,49,56,49,57,50,48,50,49,50,50,50,51,50,52,50,53,50,54,50,55,50,56,50,57,51,48,51,49,51,50,51,51,51,52,51,53,51,54,51,55,51,56,51,57,52,48,52,49,52,50,52,51,52,52,52,53,52,54,52,55,52,56,52,57,53,48,53,49,53,50,53,51,53,52,53,53,53,54,53,55,53,56,53,57,54,48,54,49,54,50,54,51,54,52,54,53,54,54,54,55,54,56,54,57,55,48,55,49,55,50,55,51,55,52,55,53,55,54,55,55,55,56,55,57,56,48,56,49,56,50,56,51,56,52,56,53,56,54,56,55,56,56,56,57,57,48,57,49,57,50,57,51,57,52,57,53,57,54,57,55,57,56,57,57]⟩) k fun z=>pIdx 1 a v fun A=>zao 1 f A y fun B=>pIdx 1 a w fun C=>zao 1 B C z fun D=>pBin PP .sub Aa (b.getD 1 undef) (.int .i64 3) fun E=>pBin PP .sub Aa (b.getD 1 undef) (.int .i64 4) fun F=>pBin PP .add Ah j (.int .u32 1) fun G=>zaY (.string ⟨#[48,48,48,49,48,50,48,51,48,52,48,53,48,54,48,55,48,56,48,57,49,48,49,49,49,50,49,51,49,52,49,53,49,54,49,55,49,56,49,57,50,48,50,49,50,50,50,51,50,52,50,53,50,54,50,55,50,56,50,57,51,48,51,49,51,50,51,51,51,52,51,53,51,54,51,55,51,56,51,57,52,48,52,49,52,50,52,51,52,52,52,53,52,54,52,55,52,56,52,57,53,48,53,49,53,50,53,51,53,52,53,53,53,54,53,55,53,56,53,57,54,48,54,49,54,50,54,51,54,52,54,53,54,54,54,55,54,56,54,57,55,48,55,49,55,50,55,51,55,52,55,53,55,54,55,55,55,56,55,57,56,48,56,49,56,50,56,51,56,52,56,53,56,54,56,55,56,56,56,57,57,48,57,49,57,50,57,51,57,52,57,53,57,54,57,55,57,56,57,57]⟩) G fun H=>zaY (.string ⟨#[48,48,48,49,48,50,48,51,48,52,48,53,48,54,48,55,48,56,48,57,49,48,49,49,49,50,49,51,49,52,49,53,49,54,49,55,49,56,49,57,50,48,50,49,50,50,50,51,50,52,50,53,50,54,50,55,50,56,50,57,51,48,51,49,51,50,51,51,51,52,51,53,51,54,51,55,51,56,51,57,52,48,52,49,52,50,52,51,52,52,52,53,52,54,52,55,52,56,52,57,53,48,53,49,53,50,53,51,53,52,53,53,53,54,53,55,53,56,53,57,54,48,54,49,54,50,54,51,54,52,54,53,54,54,54,55,54,56,54,57,55,48,55,49,55,50,55,51,55,52,55,53,55,54,55,55,55,56,55,57,56,48,56,49,56,50,56,51,56,52,56,53,56,54,56,55,56,56,56,57,57,48,57,49,57,50,57,51,57,52,57,53,57,54,57,55,57,56,57,57]⟩) j fun I=>pIdx 1 a E fun J=>zao 1 D J H fun K=>pIdx 1 a F fun L=>zao 1 K L I fun M=>pBin PP .sub Aa (b.getD 1 undef) (.int .i64 4) fun N=>some (.next,[N,s],M)) (some (.next,[(b.getD 1 undef),g],f))) fun O c d=>zaC O (pBin PP .geq Aa (c.getD 0 undef) (.int .i64 2) fun P=>zaa P fun Q=>br Q (pBin PP .rem Ah (c.getD 1 undef) (.int .u32 100) fun S=>pBin PP .mul Ah S (.int .u32 2) fun l=>pBin PP .quo Ah (c.getD 1 undef) (.int .u32 100) fun T=>pBin PP .sub Aa (c.getD 0 undef) (.int .i64 1) fun U=>pBin PP .sub Aa (c.getD 0 undef) (.int .i64 2) fun V=>pBin PP .add Ah l (.int .u32 1) fun W=>zaY (.string ⟨#[48,48,48,49,48,50,48,51,48,52,48,53,48,54,48,55,48,56,48,57,49,48,49,49,49,50,49,51,49,52,49,53,49,54,49,55,49,56,49,57,50,48,50,49,50,50,50,51,50,52,50,53,50,54,50,55,50,56,50,57,51,48,51,49,51,50,51,51,51,52,51,53,51,54,51,55,51,56,51,57,52,48,52,49,52,50,52,51,52,52,52,53,52,54,52,55,52,56,52,57,53,48,53,49,53,50,53,51,53,52,53,53,53,54,53,55,53,56,53,57,54,48,54,49,54,50,54,51,54,52,54,53,54,54,54,55,54,56,54,57,55,48,55,49,55,50,55,51,55,52,55,53,55,54,55,55,55,56,55,57,56,48,56,49,56,50,56,51,56,52,56,53,56,54,56,55,56,56,56,57,57,48,57,49,57,50,57,51,57,52,57,53,57,54,57,55,57,56,57,57]⟩) W fun X=>zaY (.string ⟨#[48,48,48,49,48,50,48,51,48,52,48,53,48,54,48,55,48,56,48,57,49,48,49,49,49,50,49,51,49,52,49,53,49,54,49,55,49,56,49,57,50,48,50,49,50,50,50,51,50,52,50,53,50,54,50,55,50,56,50,57,51,48,51,49,51,50,51,51,51,52,51,53,51,54,51,55,51,56,51,57,52,48,52,49,52,50,52,51,52,52,52,53,52,54,52,55,52,56,52,57,53,48,53,49,53,50,53,51,53,52,53,53,53,54,53,55,53,56,53,57,54,48,54,49,54,50,54,51,54,52,54,53,54,54,54,55,54,56,54,57,55,48,55,49,55,50,55,51,55,52,55,53,55,54,55,55,55,56,55,57,56,48,56,49,56,50,56,51,56,52,56,53,56,54,56,55,56,56,56,57,57,48,57,49,57,50,57,51,57,52,57,53,57,54,57,55,57,56,57,57]⟩) l fun Y=>pIdx 1 a U fun Z=>zao 1 d Z X fun aa=>pIdx 1 a V fun ab=>zao 1 aa ab Y fun m=>pBin PP .sub Aa (c.getD 0 undef) (.int .i64 2) fun ac=>pBin PP .gtr Aa ac (.int .i64 0) fun ad=>zaa ad fun ae=>br ae (pBin PP .add Ah (.int .u32 48) T fun af=>zaj .u8 af fun ag=>pIdx 1 a (.int .i64 0) fun ah=>zao 1 m ah ag fun ai=>some ((.tuple #[]),ai)) (some ((.tuple #[]),m))) (pBin PP .gtr Aa (c.getD 0 undef) (.int .i64 0) fun aj=>zaa aj fun ak=>br ak (pBin PP .add Ah (.int .u32 48) (c.getD 1 undef) fun al=>zaj .u8 al fun am=>pIdx 1 a (.int .i64 0) fun ao=>zao 1 d ao am fun ap=>some ((.tuple #[]),ap)) (some ((.tuple #[]),d)))) (fun aq=>none) (some ((c.headD undef),d))) (none)) (some ((b.headD undef),f)):=by kernel_rfl
noncomputable def zaw(R:zag)(d:Value)(e:Value)(f:Value)(g:Value)(a:List Value)(b:Hp):Option Outc:=pBin PP .geq Ab (a.getD 0 undef) e fun h=>zaa h fun i=>br i (pBin PP .sub Aa (a.getD 1 undef) (.int .i64 1) fun c=>pBin PP .and Cg (a.getD 0 undef) f fun j=>zaY (.string ⟨#[48,49,50,51,52,53,54,55,56,57,97,98,99,100,101,102,103,104,105,106,107,108,109,110,111,112,113,114,115,116,117,118,119,120,121,122]⟩) j fun k=>zcu 65 1 g c fun l=>zao 1 b l k fun m=>pBin PP .shr Ab (a.getD 0 undef) d fun n=>some (.next,[n,c],m)) (some (.exit 0,[(a.getD 0 undef),(a.getD 1 undef)],b))
noncomputable def zc1(R:zag)(b:Value)(f:Value)(a:List Value)(c:Hp):Option Outc:=pBin PP .geq Ab (a.getD 0 undef) b fun g=>zaa g fun h=>br h (pBin PP .sub Aa (a.getD 1 undef) (.int .i64 1) fun d=>pBin PP .quo Ab (a.getD 0 undef) b fun e=>pBin PP .mul Ab e b fun i=>pBin PP .sub Ab (a.getD 0 undef) i fun j=>zaY (.string ⟨#[48,49,50,51,52,53,54,55,56,57,97,98,99,100,101,102,103,104,105,106,107,108,109,110,111,112,113,114,115,116,117,118,119,120,121,122]⟩) j fun k=>zcu 65 1 f d fun l=>zao 1 c l k fun m=>some (.next,[e,d],m)) (some (.exit 2,[(a.getD 0 undef),(a.getD 1 undef)],c))
theorem zdr(R:zag)(e l b i f:Value)(r:Hp):zb4 R e l b i f r =
zau (pBin PP .lss Aa b (.int .i64 2) fun y=>zaa y fun z=>br z (none) (pBin PP .eql Aa b (.int .i64 10) fun A=>zaa A fun B=>br B (none) (pBin PP .gtr Aa b (.int .i64 36) fun C=>zaa C fun D=>br D (none) (some (.next,[],r))))) fun E F s=>zaC E (zcI [.int .u8 0,.int .u8 0,.int .u8 0,.int .u8 0,.int .u8 0,.int .u8 0,.int .u8 0,.int .u8 0,.int .u8 0,.int .u8 0,.int .u8 0,.int .u8 0,.int .u8 0,.int .u8 0,.int .u8 0,.int .u8 0,.int .u8 0,.int .u8 0,.int .u8 0,.int .u8 0,.int .u8 0,.int .u8 0,.int .u8 0,.int .u8 0,.int .u8 0,.int .u8 0,.int .u8 0,.int .u8 0,.int .u8 0,.int .u8 0,.int .u8 0,.int .u8 0,.int .u8 0,.int .u8 0,.int .u8 0,.int .u8 0,.int .u8 0,.int .u8 0,.int .u8 0,.int .u8 0,.int .u8 0,.int .u8 0,.int .u8 0,.int .u8 0,.int .u8 0,.int .u8 0,.int .u8 0,.int .u8 0,.int .u8 0,.int .u8 0,.int .u8 0,.int .u8 0,.int .u8 0,.int .u8 0,.int .u8 0,.int .u8 0,.int .u8 0,.int .u8 0,.int .u8 0,.int .u8 0,.int .u8 0,.int .u8 0,.int .u8 0,.int .u8 0,.int .u8 0] s fun a t=>zau (zaa i fun G=>br G (pUn .neg l fun H=>some (.next,[H],t)) (some (.next,[l],t))) fun I m u=>zaC I (zad R BX [b] u fun J v=>zaa J fun K=>br K (zaj .u64 b fun L=>zad R BM [L] v fun M N=>zaj .u64 M fun O=>zaj .u64 b fun P=>zaj .u64 b fun Q=>pBin PP .sub Cg Q (.int .u64 1) fun S=>zau (zat (zaw R O P S a) [(m.getD 0 undef),(.int .i64 65)] N) fun T n w=>zaC T none (fun U=>zav U 0 (pBin PP .sub Aa (n.getD 1 undef) (.int .i64 1) fun j=>zaY (.string ⟨#[48,49,50,51,52,53,54,55,56,57,97,98,99,100,101,102,103,104,105,106,107,108,109,110,111,112,113,114,115,116,117,118,119,120,121,122]⟩) (n.getD 0 undef) fun V=>zcu 65 1 a j fun W=>zao 1 w W V fun c=>zaa i fun X=>br X (pBin PP .sub Aa j (.int .i64 1) fun o=>zcu 65 1 a o fun Y=>zao 1 c Y (.int .u8 45) fun g=>zaa f fun Z=>br Z (zck 65 1 a (some o) none g fun aa=>zbN Ad 1 1 e aa g fun ab ac=>some ((.tuple #[ab,(.string ⟨#[]⟩)]),ac)) (zck 65 1 a (some o) none g fun ad=>zed ad g fun ae=>some ((.tuple #[(.slice none 0 0),ae]),g))) (zaa f fun af=>br af (zck 65 1 a (some j) none c fun ag=>zbN Ad 1 1 e ag c fun ah ai=>some ((.tuple #[ah,(.string ⟨#[]⟩)]),ai)) (zck 65 1 a (some j) none c fun aj=>zed aj c fun ak=>some ((.tuple #[(.slice none 0 0),ak]),c)))) (none)) (some ((n.headD undef),w))) (zaj .u64 b fun al=>zau (zat (zc1 R al a) [(m.getD 0 undef),(.int .i64 65)] v) fun am p x=>zaC am none (fun ao=>zav ao 2 (pBin PP .sub Aa (p.getD 1 undef) (.int .i64 1) fun k=>zaY (.string ⟨#[48,49,50,51,52,53,54,55,56,57,97,98,99,100,101,102,103,104,105,106,107,108,109,110,111,112,113,114,115,116,117,118,119,120,121,122]⟩) (p.getD 0 undef) fun ap=>zcu 65 1 a k fun aq=>zao 1 x aq ap fun d=>zaa i fun ar=>br ar (pBin PP .sub Aa k (.int .i64 1) fun q=>zcu 65 1 a q fun au=>zao 1 d au (.int .u8 45) fun h=>zaa f fun av=>br av (zck 65 1 a (some q) none h fun aw=>zbN Ad 1 1 e aw h fun ax ay=>some ((.tuple #[ax,(.string ⟨#[]⟩)]),ay)) (zck 65 1 a (some q) none h fun az=>zed az h fun ba=>some ((.tuple #[(.slice none 0 0),ba]),h))) (zaa f fun bb=>br bb (zck 65 1 a (some k) none d fun bc=>zbN Ad 1 1 e bc d fun bd be=>some ((.tuple #[bd,(.string ⟨#[]⟩)]),be)) (zck 65 1 a (some k) none d fun bf=>zed bf d fun bg=>some ((.tuple #[(.slice none 0 0),bg]),d)))) (none)) (some ((p.headD undef),x)))) (fun bh=>none) (some ((m.headD undef),u))) (fun bi=>none) (some ((F.headD undef),s)):=by kernel_rfl
noncomputable def zaF(R:zag)(r:Value)(f:Value)(s:Value)(t:Value)(i:List Value)(u:List Value)(a:List Value)(g:Hp):Option Outc:=pBin PP .lss Aa (a.getD 2 undef) t fun v=>zaa v fun w=>br w (pIdx 1 s (a.getD 2 undef) fun x=>zal 1 false g x fun b=>zau (zau (pBin PP .eql Ad b (.int .u8 95) fun y=>zaa y fun z=>br z (some (.next,[r],g)) (some (.next,[(.bool false)],g))) fun A j d=>zaC A (zaa (j.getD 0 undef) fun B=>br B (some (.exit 4,[(.bool true),(.int .u8 0)],d)) (pBin PP .leq Ad (.int .u8 48) b fun C=>zaa C fun D=>br D (pBin PP .leq Ad b (.int .u8 57) fun E=>zaa E fun F=>br F (pBin PP .sub Ad b (.int .u8 48) fun G=>some (.next,[(a.getD 0 undef),G],d)) (zad R Ar [b] d fun H k=>pBin PP .leq Ad (.int .u8 97) H fun I=>zaa I fun J=>br J (zad R Ar [b] k fun K l=>pBin PP .leq Ad K (.int .u8 122) fun L=>zaa L fun M=>br M (zad R Ar [b] l fun N O=>pBin PP .sub Ad N (.int .u8 97) fun P=>pBin PP .add Ad P (.int .u8 10) fun Q=>some (.next,[(a.getD 0 undef),Q],O)) (some (.ret,[(.tuple #[(.int .u64 0),(.iface Ai (.int .i64 2))])],l))) (some (.ret,[(.tuple #[(.int .u64 0),(.iface Ai (.int .i64 2))])],k)))) (zad R Ar [b] d fun S m=>pBin PP .leq Ad (.int .u8 97) S fun T=>zaa T fun U=>br U (zad R Ar [b] m fun V n=>pBin PP .leq Ad V (.int .u8 122) fun W=>zaa W fun X=>br X (zad R Ar [b] n fun Y Z=>pBin PP .sub Ad Y (.int .u8 97) fun aa=>pBin PP .add Ad aa (.int .u8 10) fun ab=>some (.next,[(a.getD 0 undef),ab],Z)) (some (.ret,[(.tuple #[(.int .u64 0),(.iface Ai (.int .i64 2))])],n))) (some (.ret,[(.tuple #[(.int .u64 0),(.iface Ai (.int .i64 2))])],m))))) (fun o=>zav o 5 (some (.next,[(a.getD 0 undef),(.int .u8 0)],d)) (some (.exit o,[(a.getD 0 undef),(.int .u8 0)],d))) (some (.ret,[(j.headD undef)],d))) fun ac e c=>zaC ac (zaj .u8 (i.getD 1 undef) fun ad=>pBin PP .geq Ad (e.getD 1 undef) ad fun ae=>zaa ae fun af=>br af (some (.ret,[(.tuple #[(.int .u64 0),(.iface Ai (.int .i64 2))])],c)) (pBin PP .geq Ab (a.getD 1 undef) (u.getD 0 undef) fun ag=>zaa ag fun ah=>br ah (some (.ret,[(.tuple #[f,(.iface Ai (.int .i64 1))])],c)) (zaj .u64 (i.getD 1 undef) fun ai=>pBin PP .mul Ab (a.getD 1 undef) ai fun p=>zaj .u64 (e.getD 1 undef) fun aj=>pBin PP .add Ab p aj fun h=>pBin PP .lss Ab h p fun ak=>zaa ak fun al=>br al (some (.ret,[(.tuple #[f,(.iface Ai (.int .i64 1))])],c)) (pBin PP .gtr Ab h f fun am=>zaa am fun ao=>br ao (some (.ret,[(.tuple #[f,(.iface Ai (.int .i64 1))])],c)) (pBin PP .add Aa (a.getD 2 undef) (.int .i64 1) fun ap=>some (.next,[(e.getD 0 undef),h,ap],c)))))) (fun q=>zav q 4 (pBin PP .add Aa (a.getD 2 undef) (.int .i64 1) fun aq=>some (.next,[(e.getD 0 undef),(a.getD 1 undef),aq],c)) (some (.exit q,[(e.getD 0 undef),(a.getD 1 undef),(a.getD 2 undef)],c))) (some (.ret,[(e.headD undef)],c))) (some (.exit 3,[(a.getD 0 undef),(a.getD 1 undef),(a.getD 2 undef)],g))
theorem zcg(R:zag)(a c g:Value)(i:Hp):zcf R a c g i =
pBin PP .eql Ac a (.string ⟨#[]⟩) fun z=>zaa z fun A=>br A (some ((.tuple #[(.int .u64 0),(.iface Ai (.int .i64 2))]),i)) (pBin PP .eql Aa c (.int .i64 0) fun B=>zau (zau (pBin PP .leq Aa (.int .i64 2) c fun C=>zaa C fun D=>br D (pBin PP .leq Aa c (.int .i64 36) fun E=>some (.next,[E],i)) (some (.next,[(.bool false)],i))) fun F o b=>zaC F (zaa (o.getD 0 undef) fun G=>br G (some (.next,[a,c],b)) (pBin PP .eql Aa c (.int .i64 0) fun H=>zaa H fun I=>br I (zaY a (.int .i64 0) fun J=>pBin PP .eql Ad J (.int .u8 48) fun K=>zaa K fun L=>br L (zau (pLen .str a b fun M=>pBin PP .geq Aa M (.int .i64 3) fun N=>zaa N fun O=>br O (zaY a (.int .i64 1) fun P=>zad R Ar [P] b fun Q S=>pBin PP .eql Ad Q (.int .u8 98) fun T=>some (.next,[T],S)) (some (.next,[(.bool false)],b))) fun U p d=>zaC U (zaa (p.getD 0 undef) fun V=>br V (za5 a (some (.int .i64 2)) none fun W=>some (.next,[W,(.int .i64 2)],d)) (zau (pLen .str a d fun X=>pBin PP .geq Aa X (.int .i64 3) fun Y=>zaa Y fun Z=>br Z (zaY a (.int .i64 1) fun aa=>zad R Ar [aa] d fun ab ac=>pBin PP .eql Ad ab (.int .u8 111) fun ad=>some (.next,[ad],ac)) (some (.next,[(.bool false)],d))) fun ae q e=>zaC ae (zaa (q.getD 0 undef) fun af=>br af (za5 a (some (.int .i64 2)) none fun ag=>some (.next,[ag,(.int .i64 8)],e)) (pLen .str a e fun ah=>pBin PP .geq Aa ah (.int .i64 3) fun ai=>zaa ai fun aj=>br aj (zaY a (.int .i64 1) fun ak=>zad R Ar [ak] e fun al r=>pBin PP .eql Ad al (.int .u8 120) fun am=>zaa am fun ao=>br ao (za5 a (some (.int .i64 2)) none fun ap=>some (.next,[ap,(.int .i64 16)],r)) (za5 a (some (.int .i64 1)) none fun aq=>some (.next,[aq,(.int .i64 8)],r))) (za5 a (some (.int .i64 1)) none fun ar=>some (.next,[ar,(.int .i64 8)],e)))) (fun l=>zav l 1 (some (.next,[a,(.int .i64 10)],e)) (zav l 0 (some (.next,[a,(.int .i64 10)],e)) (some (.exit l,[a,(.int .i64 10)],e)))) (some (.ret,[(q.headD undef)],e)))) (fun m=>zav m 1 (some (.next,[a,(.int .i64 10)],d)) (zav m 0 (some (.next,[a,(.int .i64 10)],d)) (some (.exit m,[a,(.int .i64 10)],d)))) (some (.ret,[(p.headD undef)],d))) (some (.next,[a,(.int .i64 10)],b))) (some (.ret,[(.tuple #[(.int .u64 0),(.iface Ai (.int .i64 3))])],b)))) (fun s=>zav s 0 (some (.next,[a,c],b)) (some (.exit s,[a,c],b))) (some (.ret,[(o.headD undef)],b))) fun au f h=>zaC au (zau (pBin PP .eql Aa g (.int .i64 0) fun av=>zaa av fun aw=>br aw (some (.next,[(.int .i64 64)],h)) (pBin PP .lss Aa g (.int .i64 0) fun ax=>zaa ax fun ay=>br ay (some (.ret,[(.tuple #[(.int .u64 0),(.iface Ai (.int .i64 4))])],h)) (pBin PP .gtr Aa g (.int .i64 64) fun az=>zaa az fun ba=>br ba (some (.ret,[(.tuple #[(.int .u64 0),(.iface Ai (.int .i64 4))])],h)) (some (.next,[g],h))))) fun bb t j=>zaC bb (zau (pBin PP .eql Aa (f.getD 1 undef) (.int .i64 10) fun bc=>zaa bc fun bd=>br bd (some (.next,[(.int .u64 1844674407370955162)],j)) (pBin PP .eql Aa (f.getD 1 undef) (.int .i64 16) fun be=>zaa be fun bf=>br bf (some (.next,[(.int .u64 1152921504606846976)],j)) (zaj .u64 (f.getD 1 undef) fun bg=>pBin PP .quo Ab (.int .u64 18446744073709551615) bg fun bh=>pBin PP .add Ab bh (.int .u64 1) fun bi=>some (.next,[bi],j)))) fun bj u v=>zaC bj (zaj .u64 (t.getD 0 undef) fun bk=>pBin PP .shl Ab (.int .u64 1) bk fun bl=>pBin PP .sub Ab bl (.int .u64 1) fun bm=>zdH (f.getD 0 undef) v fun w x=>pLen .sl w x fun bn=>zau (zat (zaF R B bm w bn f u) [(.bool false),(.int .u64 0),(.int .i64 0)] x) fun bo k n=>zaC bo none (fun bp=>zav bp 3 (zaa (k.getD 0 undef) fun bq=>br bq (zad R Cm [a] n fun bs y=>pUn .not bs fun bt=>zaa bt fun bu=>br bu (some ((.tuple #[(.int .u64 0),(.iface Ai (.int .i64 2))]),y)) (some ((.tuple #[(k.getD 1 undef),.nilIface]),y))) (some ((.tuple #[(k.getD 1 undef),.nilIface]),n))) (none)) (some ((k.headD undef),n))) (fun bv=>none) (some ((u.headD undef),v))) (fun bw=>none) (some ((t.headD undef),j))) (fun bx=>none) (some ((f.headD undef),h))):=by kernel_rfl
end Go.AM
namespace Go.AM
open Go
def HS(P:Program)(F:Nat→Option AObj):Hp:=⟨P.globals.size,fun i=>if i<P.globals.size then F i else none,fun _=>none⟩
def isInt:Value→Bool
 |.int _ _=>true
 |_=>false
theorem isInt_rel{β:Bt}{v:Value}(h:isInt v=true):VRel β v v:=by
 unfold isInt at h;split at h
 ·exact .int _ _
 ·cases h
theorem relStart{P:Program}{W:World}(h:P.globals.size≤W.heap.size){F:Nat→Option AObj}
  (hF:∀i o,F i=some o→(∃q,o=.fix q∧W.heap[i]?=some q)∨(∃cs,o=.cells cs false∧∀(j:Nat) v,cs[j]?=some v→isInt v=true∧W.cell? ⟨i,j,none⟩=some v)) :
  Rel P W (HS P F) (B00 P)∧(∀i o,(HS P F).get i=some o→o.own=false):=by
 have key:∀i o,(HS P F).get i=some o→i<P.globals.size∧F i=some o:=fun i o hi=>by
  have hi:(if i<P.globals.size then F i else none)=some o:=hi;split at hi
  ·exact⟨by assumption,hi⟩
  ·cases hi
 have hno:∀i o,(HS P F).get i=some o→o.own=false:=fun i o hi=>by rcases hF i o (key i o hi).2 with⟨q,rfl,_⟩|⟨cs,rfl,_⟩<;>rfl
 refine⟨⟨fun i cs own hi=>?_,fun i kv hi=>?_,fun i j o o' x y _ hi _ ho=>?_,fun i hi=>⟨?_,by unfold B00;rw[if_neg (by have:P.globals.size≤i:=hi;omega)]⟩,
  fun i x hx=>(by unfold B00 at hx;split at hx<;>cases hx;show i<_;omega),fun g hg=>⟨0,by unfold B00;rw[if_pos hg]⟩,fun i o hi=>?_,fun i T hi=>(by cases hi)⟩,hno⟩
 ·obtain⟨h1,h2⟩:=key i _ hi;rcases hF i _ h2 with⟨q,e,_⟩|⟨cs',e,hc⟩
  ·cases e
  ·cases e;refine⟨⟨i,0,0⟩,by unfold B00;rw[if_pos h1],fun j v hv=>?_,fun q=>by cases q⟩;obtain⟨c1,c2⟩:=hc j v hv;exact⟨v,by rw[Nat.zero_add];exact c2,isInt_rel c1⟩
 ·obtain⟨h1,h2⟩:=key i _ hi;rcases hF i _ h2 with⟨q,e,_⟩|⟨cs',e,hc⟩<;>cases e
 ·rw[hno i o hi]at ho;cases ho
 ·show (if i<P.globals.size then F i else none)=none;have:P.globals.size≤i:=hi;rw[if_neg (by omega)]
 ·obtain⟨h1,h2⟩:=key i _ hi;rcases hF i _ h2 with⟨q,e,hq⟩|⟨cs',e,hc⟩
  ·cases e;exact⟨⟨i,0,0⟩,by unfold B00;rw[if_pos h1],rfl,hq⟩
  ·cases e
end Go.AM
namespace Go.Proofs
open Go.Shelf
def Tryz.laysM246_ren:Go.Shelf.Ren:=⟨fun|246=>131|283=>150|284=>151|285=>152|286=>153|129=>164|317=>163|318=>165|319=>166|320=>167|337=>182|338=>183|n=>n,fun|2=>2|3=>3|9=>9|4=>4|171=>223|0=>0|53=>38|37=>119|5=>5|173=>225|212=>235|51=>207|20=>20|213=>236|46=>63|232=>265|233=>266|n=>n,fun|17=>3|18=>9|19=>10|n=>n⟩
theorem Tryz.laysM246:Go.Proofs.LaysM.n246 Tryz.prog Tryz.laysM246_ren:={
 mixed:=by kernel_rfl
 f129:=Tryz.func164.trans (congrArg some (by kernel_rfl))
 f246:=Tryz.func131.trans (congrArg some (by kernel_rfl))
 f283:=Tryz.func150.trans (congrArg some (by kernel_rfl))
 f284:=Tryz.func151.trans (congrArg some (by kernel_rfl))
 f285:=Tryz.func152.trans (congrArg some (by kernel_rfl))
 f286:=Tryz.func153.trans (congrArg some (by kernel_rfl))
 f317:=Tryz.func163.trans (congrArg some (by kernel_rfl))
 f318:=Tryz.func165.trans (congrArg some (by kernel_rfl))
 f319:=Tryz.func166.trans (congrArg some (by kernel_rfl))
 f320:=Tryz.func167.trans (congrArg some (by kernel_rfl))
 f337:=Tryz.func182.trans (congrArg some (by kernel_rfl))
 f338:=Tryz.func183.trans (congrArg some (by kernel_rfl))
 t0:=Tryz.underlying0
 a0:=Tryz.isAgg0
 z0:=Tryz.sizeOf0
 v0:=Tryz.zeroValue0
 t2:=Tryz.underlying2
 a2:=Tryz.isAgg2
 z2:=Tryz.sizeOf2
 v2:=Tryz.zeroValue2
 t3:=Tryz.underlying3
 a3:=Tryz.isAgg3
 z3:=Tryz.sizeOf3
 v3:=Tryz.zeroValue3
 t4:=Tryz.underlying4
 a4:=Tryz.isAgg4
 z4:=Tryz.sizeOf4
 v4:=Tryz.zeroValue4
 t5:=Tryz.underlying5
 a5:=Tryz.isAgg5
 z5:=Tryz.sizeOf5
 v5:=Tryz.zeroValue5
 t9:=Tryz.underlying9
 a9:=Tryz.isAgg9
 z9:=Tryz.sizeOf9
 v9:=Tryz.zeroValue9
 t20:=Tryz.underlying20
 a20:=Tryz.isAgg20
 z20:=Tryz.sizeOf20
 v20:=Tryz.zeroValue20
 t37:=Tryz.underlying119
 a37:=Tryz.isAgg119
 z37:=Tryz.sizeOf119
 v37:=Tryz.zeroValue119
 t46:=Tryz.underlying63
 a46:=Tryz.isAgg63
 z46:=Tryz.sizeOf63
 v46:=Tryz.zeroValue63
 t51:=Tryz.underlying207
 a51:=Tryz.isAgg207
 z51:=Tryz.sizeOf207
 v51:=Tryz.zeroValue207
 t53:=Tryz.underlying38
 a53:=Tryz.isAgg38
 z53:=Tryz.sizeOf38
 v53:=Tryz.zeroValue38
 t171:=Tryz.underlying223
 a171:=Tryz.isAgg223
 z171:=Tryz.sizeOf223
 v171:=Tryz.zeroValue223
 t173:=Tryz.underlying225
 a173:=Tryz.isAgg225
 z173:=Tryz.sizeOf225
 v173:=Tryz.zeroValue225
 t212:=Tryz.underlying235
 a212:=Tryz.isAgg235
 z212:=Tryz.sizeOf235
 v212:=Tryz.zeroValue235
 t213:=Tryz.underlying236
 a213:=Tryz.isAgg236
 z213:=Tryz.sizeOf236
 t232:=Tryz.underlying265
 a232:=Tryz.isAgg265
 z232:=Tryz.sizeOf265
 v232:=Tryz.zeroValue265
 t233:=Tryz.underlying266
 a233:=Tryz.isAgg266
 z233:=Tryz.sizeOf266
 v233:=Tryz.zeroValue266
 g17:=by kernel_rfl
 g18:=by kernel_rfl
 g19:=by kernel_rfl
 i0:=by kernel_rfl
 i2:=by kernel_rfl
 i3:=by kernel_rfl
 i4:=by kernel_rfl
 i5:=by kernel_rfl
 i9:=by kernel_rfl
 i20:=by kernel_rfl
 i37:=by kernel_rfl
 i46:=by kernel_rfl
 i51:=by kernel_rfl
 i53:=by kernel_rfl
 i171:=by kernel_rfl
 i173:=by kernel_rfl
 i212:=by kernel_rfl
 i232:=by kernel_rfl
 i233:=by kernel_rfl
 m17:=by kernel_rfl
 m18:=by kernel_rfl
 m19:=by kernel_rfl }
open Go.RowKit Go.Sort Go.Lib in
theorem Tryz.internal_strconv_FormatInt_10(n:Int)(h0:-9223372036854775808≤n)(h1:n≤9223372036854775807)(w:World)(htab:Lib.TabIs Tryz.prog w "internal/strconv.uint64pow10" .u64 Lib.pow10Tab) :
  Calls Tryz.prog 131 #[.int .i64 n,.int .i64 10] w fun e w'=>e=.returned (.string ⟨(Lib.itoa n).toArray⟩)∧∃k os,w'=grow (w.drewN k) os:=Any.internal_strconv_FormatInt_10 Tryz.laysM246 n h0 h1 w htab
def Tryz.laysC245_ren:Go.Shelf.Ren:=⟨fun|245=>161|279=>178|280=>179|281=>180|282=>181|316=>186|171=>59|205=>187|243=>98|246=>131|283=>150|284=>151|285=>152|286=>153|129=>164|317=>163|318=>165|319=>166|320=>167|337=>182|338=>183|n=>n,fun|9=>9|3=>3|75=>114|167=>249|4=>4|168=>251|210=>263|37=>119|0=>0|127=>171|145=>269|143=>267|2=>2|171=>223|53=>38|5=>5|173=>225|212=>235|51=>207|20=>20|213=>236|46=>63|232=>265|233=>266|80=>128|n=>n,fun|15=>7|16=>8|17=>3|18=>9|19=>10|n=>n⟩
theorem Tryz.laysC245:Go.Proofs.LaysC.n245 Tryz.prog Tryz.laysC245_ren:={
 mixed:=by kernel_rfl
 f129:=Tryz.func164.trans (congrArg some (by kernel_rfl))
 f171:=Tryz.func59.trans (congrArg some (by kernel_rfl))
 f205:=Tryz.func187.trans (congrArg some (by kernel_rfl))
 f243:=Tryz.func98.trans (congrArg some (by kernel_rfl))
 f245:=Tryz.func161.trans (congrArg some (by kernel_rfl))
 f246:=Tryz.func131.trans (congrArg some (by kernel_rfl))
 f279:=Tryz.func178.trans (congrArg some (by kernel_rfl))
 f280:=Tryz.func179.trans (congrArg some (by kernel_rfl))
 f281:=Tryz.func180.trans (congrArg some (by kernel_rfl))
 f282:=Tryz.func181.trans (congrArg some (by kernel_rfl))
 f283:=Tryz.func150.trans (congrArg some (by kernel_rfl))
 f284:=Tryz.func151.trans (congrArg some (by kernel_rfl))
 f285:=Tryz.func152.trans (congrArg some (by kernel_rfl))
 f286:=Tryz.func153.trans (congrArg some (by kernel_rfl))
 f316:=Tryz.func186.trans (congrArg some (by kernel_rfl))
 f317:=Tryz.func163.trans (congrArg some (by kernel_rfl))
 f318:=Tryz.func165.trans (congrArg some (by kernel_rfl))
 f319:=Tryz.func166.trans (congrArg some (by kernel_rfl))
 f320:=Tryz.func167.trans (congrArg some (by kernel_rfl))
 f337:=Tryz.func182.trans (congrArg some (by kernel_rfl))
 f338:=Tryz.func183.trans (congrArg some (by kernel_rfl))
 t0:=Tryz.underlying0
 a0:=Tryz.isAgg0
 z0:=Tryz.sizeOf0
 v0:=Tryz.zeroValue0
 t2:=Tryz.underlying2
 a2:=Tryz.isAgg2
 z2:=Tryz.sizeOf2
 v2:=Tryz.zeroValue2
 t3:=Tryz.underlying3
 a3:=Tryz.isAgg3
 z3:=Tryz.sizeOf3
 v3:=Tryz.zeroValue3
 t4:=Tryz.underlying4
 a4:=Tryz.isAgg4
 z4:=Tryz.sizeOf4
 v4:=Tryz.zeroValue4
 t5:=Tryz.underlying5
 a5:=Tryz.isAgg5
 z5:=Tryz.sizeOf5
 v5:=Tryz.zeroValue5
 t9:=Tryz.underlying9
 a9:=Tryz.isAgg9
 z9:=Tryz.sizeOf9
 v9:=Tryz.zeroValue9
 t20:=Tryz.underlying20
 a20:=Tryz.isAgg20
 z20:=Tryz.sizeOf20
 v20:=Tryz.zeroValue20
 t37:=Tryz.underlying119
 a37:=Tryz.isAgg119
 z37:=Tryz.sizeOf119
 v37:=Tryz.zeroValue119
 t46:=Tryz.underlying63
 a46:=Tryz.isAgg63
 z46:=Tryz.sizeOf63
 v46:=Tryz.zeroValue63
 t51:=Tryz.underlying207
 a51:=Tryz.isAgg207
 z51:=Tryz.sizeOf207
 v51:=Tryz.zeroValue207
 t53:=Tryz.underlying38
 a53:=Tryz.isAgg38
 z53:=Tryz.sizeOf38
 v53:=Tryz.zeroValue38
 t75:=Tryz.underlying114
 a75:=Tryz.isAgg114
 z75:=Tryz.sizeOf114
 v75:=Tryz.zeroValue114
 t127:=Tryz.underlying171
 a127:=Tryz.isAgg171
 z127:=Tryz.sizeOf171
 v127:=Tryz.zeroValue171
 t143:=Tryz.underlying267
 a143:=Tryz.isAgg267
 z143:=Tryz.sizeOf267
 v143:=Tryz.zeroValue267
 t145:=Tryz.underlying269
 a145:=Tryz.isAgg269
 z145:=Tryz.sizeOf269
 v145:=Tryz.zeroValue269
 t167:=Tryz.underlying249
 a167:=Tryz.isAgg249
 z167:=Tryz.sizeOf249
 v167:=Tryz.zeroValue249
 t168:=Tryz.underlying251
 a168:=Tryz.isAgg251
 z168:=Tryz.sizeOf251
 v168:=Tryz.zeroValue251
 t171:=Tryz.underlying223
 a171:=Tryz.isAgg223
 z171:=Tryz.sizeOf223
 v171:=Tryz.zeroValue223
 t173:=Tryz.underlying225
 a173:=Tryz.isAgg225
 z173:=Tryz.sizeOf225
 v173:=Tryz.zeroValue225
 t210:=Tryz.underlying263
 a210:=Tryz.isAgg263
 z210:=Tryz.sizeOf263
 v210:=Tryz.zeroValue263
 t212:=Tryz.underlying235
 a212:=Tryz.isAgg235
 z212:=Tryz.sizeOf235
 v212:=Tryz.zeroValue235
 t213:=Tryz.underlying236
 a213:=Tryz.isAgg236
 z213:=Tryz.sizeOf236
 t232:=Tryz.underlying265
 a232:=Tryz.isAgg265
 z232:=Tryz.sizeOf265
 v232:=Tryz.zeroValue265
 t233:=Tryz.underlying266
 a233:=Tryz.isAgg266
 z233:=Tryz.sizeOf266
 v233:=Tryz.zeroValue266
 g15:=by kernel_rfl
 g16:=by kernel_rfl
 g17:=by kernel_rfl
 g18:=by kernel_rfl
 g19:=by kernel_rfl
 t80:=Tryz.underlying128
 a80:=Tryz.isAgg128
 z80:=Tryz.sizeOf128
 v80:=Tryz.zeroValue128
 i0:=by kernel_rfl
 i2:=by kernel_rfl
 i3:=by kernel_rfl
 i4:=by kernel_rfl
 i5:=by kernel_rfl
 i9:=by kernel_rfl
 i20:=by kernel_rfl
 i37:=by kernel_rfl
 i46:=by kernel_rfl
 i51:=by kernel_rfl
 i53:=by kernel_rfl
 i75:=by kernel_rfl
 i80:=by kernel_rfl
 i127:=by kernel_rfl
 i143:=by kernel_rfl
 i145:=by kernel_rfl
 i167:=by kernel_rfl
 i168:=by kernel_rfl
 i171:=by kernel_rfl
 i173:=by kernel_rfl
 i210:=by kernel_rfl
 i212:=by kernel_rfl
 i232:=by kernel_rfl
 i233:=by kernel_rfl
 m15:=by kernel_rfl
 m16:=by kernel_rfl
 m17:=by kernel_rfl
 m18:=by kernel_rfl
 m19:=by kernel_rfl
 c0:=by kernel_rfl
 c2:=by kernel_rfl
 c3:=by kernel_rfl
 c4:=by kernel_rfl
 c5:=by kernel_rfl
 c9:=by kernel_rfl
 c20:=by kernel_rfl
 c37:=by kernel_rfl
 c46:=by kernel_rfl
 c51:=by kernel_rfl
 c53:=by kernel_rfl
 c75:=by kernel_rfl
 c80:=by kernel_rfl
 c127:=by kernel_rfl
 c143:=by kernel_rfl
 c145:=by kernel_rfl
 c167:=by kernel_rfl
 c168:=by kernel_rfl
 c171:=by kernel_rfl
 c173:=by kernel_rfl
 c210:=by kernel_rfl
 c212:=by kernel_rfl
 c213:=by kernel_rfl
 c232:=by kernel_rfl
 c233:=by kernel_rfl }
open Go.RowKit in
theorem Tryz.strconv_toError_syntax(fn s:ByteArray)(base bits:Int)(ev:Value)(w:World)(hlim:s.size≤281474976710656)(hv:w.cell? ⟨7,0,none⟩=some ev)(hev:ev=.nilIface∨∃te pe,ev=.iface te pe) :
  Calls Tryz.prog 161 #[.string fn,.string s,.int .i64 base,.int .i64 bits,.iface 249 (.int .i64 2)] w fun e w'=>∃N,e=.returned (.iface 251 (.pointer (some ⟨N,0,none⟩)))∧w.heap.size≤N∧w'.heap[N]?=some (.cells #[.string fn,.string s,ev] 263 (0,0))∧Below w.heap.size w w':=Any.strconv_toError_syntax Tryz.laysC245 fn s base bits ev w hlim hv hev
open Go.RowKit in
theorem Tryz.strconv_toError_range(fn s:ByteArray)(base bits:Int)(ev:Value)(w:World)(hlim:s.size≤281474976710656)(hv:w.cell? ⟨8,0,none⟩=some ev)(hev:ev=.nilIface∨∃te pe,ev=.iface te pe) :
  Calls Tryz.prog 161 #[.string fn,.string s,.int .i64 base,.int .i64 bits,.iface 249 (.int .i64 1)] w fun e w'=>∃N,e=.returned (.iface 251 (.pointer (some ⟨N,0,none⟩)))∧w.heap.size≤N∧w'.heap[N]?=some (.cells #[.string fn,.string s,ev] 263 (0,0))∧Below w.heap.size w w':=Any.strconv_toError_range Tryz.laysC245 fn s base bits ev w hlim hv hev
def Tryz.laysM157_ren:Go.Shelf.Ren:=⟨fun|157=>99|229=>67|199=>132|261=>154|311=>168|312=>169|n=>n,fun|9=>9|31=>69|3=>3|5=>5|4=>4|119=>196|0=>0|40=>136|152=>173|21=>21|154=>175|51=>207|141=>228|196=>240|193=>237|198=>243|49=>241|194=>238|201=>246|226=>254|46=>63|227=>255|n=>n,fun|0=>1|6=>2|n=>n⟩
theorem Tryz.laysM157:Go.Proofs.LaysM.n157 Tryz.prog Tryz.laysM157_ren:={
 mixed:=by kernel_rfl
 f157:=Tryz.func99.trans (congrArg some (by kernel_rfl))
 f199:=Tryz.func132.trans (congrArg some (by kernel_rfl))
 f229:=Tryz.func67.trans (congrArg some (by kernel_rfl))
 f261:=Tryz.func154.trans (congrArg some (by kernel_rfl))
 f311:=Tryz.func168.trans (congrArg some (by kernel_rfl))
 f312:=Tryz.func169.trans (congrArg some (by kernel_rfl))
 t0:=Tryz.underlying0
 a0:=Tryz.isAgg0
 z0:=Tryz.sizeOf0
 v0:=Tryz.zeroValue0
 t3:=Tryz.underlying3
 a3:=Tryz.isAgg3
 z3:=Tryz.sizeOf3
 v3:=Tryz.zeroValue3
 t4:=Tryz.underlying4
 a4:=Tryz.isAgg4
 z4:=Tryz.sizeOf4
 v4:=Tryz.zeroValue4
 t5:=Tryz.underlying5
 a5:=Tryz.isAgg5
 z5:=Tryz.sizeOf5
 v5:=Tryz.zeroValue5
 t9:=Tryz.underlying9
 a9:=Tryz.isAgg9
 z9:=Tryz.sizeOf9
 v9:=Tryz.zeroValue9
 t21:=Tryz.underlying21
 a21:=Tryz.isAgg21
 z21:=Tryz.sizeOf21
 v21:=Tryz.zeroValue21
 t31:=Tryz.underlying69
 a31:=Tryz.isAgg69
 z31:=Tryz.sizeOf69
 v31:=Tryz.zeroValue69
 t40:=Tryz.underlying136
 a40:=Tryz.isAgg136
 z40:=Tryz.sizeOf136
 v40:=Tryz.zeroValue136
 t46:=Tryz.underlying63
 a46:=Tryz.isAgg63
 z46:=Tryz.sizeOf63
 v46:=Tryz.zeroValue63
 t49:=Tryz.underlying241
 a49:=Tryz.isAgg241
 z49:=Tryz.sizeOf241
 v49:=Tryz.zeroValue241
 t51:=Tryz.underlying207
 a51:=Tryz.isAgg207
 z51:=Tryz.sizeOf207
 v51:=Tryz.zeroValue207
 t119:=Tryz.underlying196
 a119:=Tryz.isAgg196
 z119:=Tryz.sizeOf196
 t141:=Tryz.underlying228
 a141:=Tryz.isAgg228
 z141:=Tryz.sizeOf228
 v141:=Tryz.zeroValue228
 t152:=Tryz.underlying173
 a152:=Tryz.isAgg173
 z152:=Tryz.sizeOf173
 v152:=Tryz.zeroValue173
 t154:=Tryz.underlying175
 a154:=Tryz.isAgg175
 z154:=Tryz.sizeOf175
 v154:=Tryz.zeroValue175
 t193:=Tryz.underlying237
 a193:=Tryz.isAgg237
 z193:=Tryz.sizeOf237
 v193:=Tryz.zeroValue237
 t194:=Tryz.underlying238
 a194:=Tryz.isAgg238
 z194:=Tryz.sizeOf238
 v194:=Tryz.zeroValue238
 t196:=Tryz.underlying240
 a196:=Tryz.isAgg240
 z196:=Tryz.sizeOf240
 v196:=Tryz.zeroValue240
 t198:=Tryz.underlying243
 a198:=Tryz.isAgg243
 z198:=Tryz.sizeOf243
 v198:=Tryz.zeroValue243
 t201:=Tryz.underlying246
 a201:=Tryz.isAgg246
 z201:=Tryz.sizeOf246
 v201:=Tryz.zeroValue246
 t226:=Tryz.underlying254
 a226:=Tryz.isAgg254
 z226:=Tryz.sizeOf254
 v226:=Tryz.zeroValue254
 t227:=Tryz.underlying255
 a227:=Tryz.isAgg255
 z227:=Tryz.sizeOf255
 v227:=Tryz.zeroValue255
 g0:=by kernel_rfl
 g6:=by kernel_rfl
 i0:=by kernel_rfl
 i3:=by kernel_rfl
 i4:=by kernel_rfl
 i5:=by kernel_rfl
 i9:=by kernel_rfl
 i21:=by kernel_rfl
 i31:=by kernel_rfl
 i40:=by kernel_rfl
 i46:=by kernel_rfl
 i49:=by kernel_rfl
 i51:=by kernel_rfl
 i141:=by kernel_rfl
 i152:=by kernel_rfl
 i154:=by kernel_rfl
 i193:=by kernel_rfl
 i194:=by kernel_rfl
 i196:=by kernel_rfl
 i198:=by kernel_rfl
 i201:=by kernel_rfl
 i226:=by kernel_rfl
 i227:=by kernel_rfl
 m0:=by kernel_rfl
 m6:=by kernel_rfl }
open Go.RowKit Go.Lib in
theorem Tryz.strings_Fields_laid(s:ByteArray)(w:World)(hs:s.size<4294967281)(hascii:∀(j:Nat) b,s.data.toList[j]?=some b→b.toNat<128)(htab:Lib.TabIs Tryz.prog w "strings.asciiSpace" .u8 Lib.asciiSpaceTab) :
  Calls Tryz.prog 99 #[.string s] w fun e w'=>
   e=.returned (.slice (some ⟨w.heap.size,0,none⟩) (Lib.fields s.data.toList).length (Lib.fields s.data.toList).length)∧w'=w.alloc (.cells ((Lib.fields s.data.toList).map fun l=>Value.string ⟨l.toArray⟩).toArray 9):=Any.strings_Fields_laid Tryz.laysM157 s w hs hascii htab
end Go.Proofs
namespace Go.AM
open List Go
def zk5(k:IntKind):List Value→List Int→Bool
 |[],[]=>true
 |.int k' a::r,b::s=>decide (k'=k)&&decide (a=b)&&zk5 k r s
 |_,_=>false
theorem zk4{k:IntKind}:∀(l:List Value) (s:List Int),zk5 k l s=true→l=s.map fun z=>Value.int k z
 |[],[],_=>rfl
 |[],_::_,h=>by cases h
 |_::_,[],h=>by unfold zk5 at h;split at h<;>simp_all
 |v::r,b::s,h=>by
  unfold zk5 at h;split at h
  ·rename_i e1 e2;cases e1
  ·rename_i k' a r' b' s' e1 e2;cases e1;cases e2;rw[Bool.and_eq_true,Bool.and_eq_true,decide_eq_true_eq,decide_eq_true_eq]at h;rw[zk4 r s h.2,h.1.1,h.1.2];rfl
  ·cases h
def zp3:List Int:=Go.Lib.pow10Tab
def zj8:List Int:=Go.Lib.asciiSpaceTab
def extFmt(args:List Value)(H:Hp):Option (Value×Hp):=
 match args with
 |[.int .i64 n,.int .i64 10]=>if -9223372036854775808≤n∧n≤9223372036854775807 then
   match H.get AA with
   |some (.fix (.cells cs _ _))=>match zk5 .u64 cs.toList zp3 with
    |true=>some (.string ⟨(Go.Lib.itoa n).toArray⟩,H)
    |false=>none
   |_=>none
  else none
 |_=>none
def zjs(args:List Value)(H:Hp):Option (Value×Hp):=
 match args with
 |[.string s]=>if s.size<4294967281∧s.data.toList.all (fun b=>decide (b.toNat<128))=true then
   match H.get AI with
   |some (.fix (.cells cs _ _))=>match zk5 .u8 cs.toList zj8 with
    |true=>some (.slice (some ⟨H.next,0,some 1⟩) (Go.Lib.fields s.data.toList).length (Go.Lib.fields s.data.toList).length,H.new (.cells ((Go.Lib.fields s.data.toList).map fun l=>Value.string ⟨l.toArray⟩) true))
    |false=>none
   |_=>none
  else none
 |_=>none
def Hp.skip(H:Hp):Hp:=⟨H.next+1,H.get,H.ty⟩
def isErr:List Value→Bool
 |.iface _ _::_=>true
 |_=>false
def zm1(args:List Value)(H:Hp):Option (Value×Hp):=
 match args with
 |[.string fn,.string s,.int .i64 _,.int .i64 _,.iface t (.int .i64 c)]=>if t=Ai∧s.size≤281474976710656∧(c=1∨c=2) then
   match H.get (if c=2 then AB else AC) with
   |some (.fix (.cells cs _ _))=>match isErr cs.toList with
    |true=>some (.iface B9 (.pointer (some ⟨H.next,0,none⟩)),H.skip)
    |false=>none
   |_=>none
  else none
 |_=>none
def E0:FuncId→Option (List Value→Hp→Option (Value×Hp)):=fun f=>
 if f=BV then some extFmt else if f=By then some zjs else if f=Bv then some extCC else if f=Bu then some zpw
 else if f=A2 then some zm1 else none
noncomputable abbrev RR:zag:=run PP orc E0
theorem zmk{P:Program}{w w':World}{H:Hp}{β:Bt}(h:Rel P w H β)(ho:w'.os=w.os)(ht:w'.tape=w.tape)(hu:w'.output=w.output)(hs:w.heap.size≤w'.heap.size)(hp:∀b,b<w.heap.size→w'.heap[b]?=w.heap[b]?) :
  Rel P w' H β∧Ext w.heap.size w H β w' H β:=
 ⟨h.frame hs fun i x hx=>hp _ (h.lt i x hx),ho,ht,hu,hs,Bt.le_refl _,Nat.le_refl _,fun b hb _=>hp b hb,fun b q=>.inr q,fun i x hx e=>by rw[hx]at e;cases e⟩
theorem Rel.skip{P:Program}{w:World}{H:Hp}{β:Bt}(h:Rel P w H β){b:Nat}(hb:b<w.heap.size)(t:Nat):Rel P w H.skip (β.set H.next ⟨b,0,t⟩)∧β.le (β.set H.next ⟨b,0,t⟩):=by
 have hf:=(h.fresh H.next (Nat.le_refl _)).2;have hle:β.le (β.set H.next ⟨b,0,t⟩):=Bt.le_set hf;have old:∀{i o y},H.get i=some o→(β.set H.next ⟨b,0,t⟩) i=some y→β i=some y:=fun {i o y} hi hy=>by obtain⟨z,hz⟩:=h.has i o hi;rw[hle i z hz]at hy;cases hy;exact hz
 refine⟨⟨fun i ds own hi=>?_,fun i kv hi=>?_,fun i j o o' x y hij hi hj ho hx hy=>h.apart i j o o' x y hij hi hj ho (old hi hx) (old hj hy),fun i hi=>?_,fun i x hx=>?_,fun g hg=>?_,fun i o hi=>?_,fun i T hi=>(h.tys i T hi).le hle⟩,hle⟩
 ·obtain⟨x,hx,h1,h2⟩:=h.cells i ds own hi;exact⟨x,hle i x hx,fun j v hv=>by obtain⟨v',h3,h4⟩:=h1 j v hv;exact⟨v',h3,h4.mono hle⟩,h2⟩
 ·obtain⟨x,hx,es,clock,h1,h2,h3⟩:=h.maps i kv hi;exact⟨x,hle i x hx,es,clock,h1,h2.mono hle,h3⟩
 ·have hi:H.next+1≤i:=hi;have:=h.fresh i (by omega);exact⟨this.1,by unfold Bt.set;rw[if_neg (by omega)];exact this.2⟩
 ·unfold Bt.set at hx;split at hx
  ·cases hx;exact hb
  ·exact h.lt i x hx
 ·obtain⟨t',ht⟩:=h.glob g hg;exact⟨t',hle g _ ht⟩
 ·obtain⟨x,hx,h1,h2⟩:=h.fix i o hi;exact⟨x,hle i x hx,h1,h2⟩
theorem LRel.two{β:Bt}{a b:Value}{l:List Value}(h:LRel β [a,b] l):∃a' b',l=[a',b']∧VRel β a a'∧VRel β b b':=by
 obtain⟨hl,hv⟩:=h
 match l,hl with
 |[x,y],_=>exact⟨x,y,rfl,hv 0 _ _ rfl rfl,hv 1 _ _ rfl rfl⟩
theorem LRel.five{β:Bt}{a b c d e:Value}{l:List Value}(h:LRel β [a,b,c,d,e] l):∃a' b' c' d' e',l=[a',b',c',d',e']∧VRel β a a'∧VRel β b b'∧VRel β c c'∧VRel β d d'∧VRel β e e':=by
 obtain⟨hl,hv⟩:=h
 match l,hl with
 |[x,y,z,u,v],_=>exact⟨x,y,z,u,v,rfl,hv 0 _ _ rfl rfl,hv 1 _ _ rfl rfl,hv 2 _ _ rfl rfl,hv 3 _ _ rfl rfl,hv 4 _ _ rfl rfl⟩
theorem tabIs{w:World}{H:Hp}{β:Bt}(hR:Rel PP w H β){name:String}{g:Nat}(hg:PP.globalNamed name=some g)(hlt:g<PP.globals.size){cs:Array Value}{e:TypeId}{fz:Nat×Nat}(h:H.get g=some (.fix (.cells cs e fz))){k:IntKind}{zs:List Int}
  (ht:zk5 k cs.toList zs=true):Go.Lib.TabIs PP w name k zs:=by
 obtain⟨x,hx,_,hx2⟩:=hR.fix g _ h;obtain⟨t,ht2⟩:=hR.glob g hlt;rw[hx]at ht2;cases ht2;unfold Go.Lib.TabIs World.var?;rw[hg];have hx2:w.heap[g]?=some (.cells cs e fz):=hx2;show (match w.heap[g]? with|some (.cells cs _ _)=>some cs|_=>none)=_;rw[hx2];dsimp only;congr 1;apply Array.ext';rw[zk4 _ _ ht]
theorem zfM:PP.globals.size=12:=by kernel_rfl
theorem named_pow:PP.globalNamed "internal/strconv.uint64pow10" = some AA:=by kernel_rfl
theorem named_spc:PP.globalNamed "strings.asciiSpace" = some AI:=by kernel_rfl
theorem errIs{w:World}{H:Hp}{β:Bt}(hR:Rel PP w H β){g:Nat}(hlt:g<PP.globals.size){cs:Array Value}{e:TypeId}{fz:Nat×Nat}(h:H.get g=some (.fix (.cells cs e fz)))(ht:isErr cs.toList=true) :
  ∃te pe,w.cell? ⟨g,0,none⟩=some (.iface te pe):=by
 obtain⟨x,hx,_,hx2⟩:=hR.fix g _ h;obtain⟨t,ht2⟩:=hR.glob g hlt;rw[hx]at ht2;cases ht2;obtain⟨l⟩:=cs;cases l with
 |nil=>cases ht
 |cons v r=>
  cases v with
  |iface te pe=>exact⟨te,pe,zcp.2 ⟨_,e,fz,hx2,rfl⟩⟩
  |_=>cases ht
theorem extErr_ok{args:List Value}{H:Hp}{v:Value}{H':Hp}(he:zm1 args H=some (v,H')){args':List Value}{w:World}{β:Bt}(hl:LRel β args args')(hR:Rel PP w H β) :
  Calls PP A2 args'.toArray w fun x w'=>∃v' β',x=.returned v'∧Rel PP w' H' β'∧Ext w.heap.size w H β w' H' β'∧VRel β' v v':=by
 unfold zm1 at he;split at he
 ·rename_i fn s i1 i2 t c;split at he
  ·rename_i hc;obtain⟨rfl,hs,hc⟩:=hc;split at he
   ·rename_i cs ty fz hg;split at he
    ·rename_i hok;cases he;obtain⟨a',b',c',d',e',rfl,ha,hb,hc',hd,he'⟩:=hl.five;cases ha;cases hb;cases hc';cases hd;cases he' with
     |iface _ _ v' hv=>
     cases hv;have fin:∀e w',(∃N,e=Ending.returned (.iface B9 (.pointer (some ⟨N,0,none⟩)))∧w.heap.size≤N∧N<w'.heap.size∧RowKit.Below w.heap.size w w') →
       ∃v' β',e=.returned v'∧Rel PP w' H.skip β'∧Ext w.heap.size w H β w' H.skip β'∧VRel β' (.iface B9 (.pointer (some ⟨H.next,0,none⟩))) v':=by
      rintro e w' ⟨N,rfl,h1,h2,h3⟩
      obtain⟨r1,r2⟩:=zmk hR h3.os h3.tape h3.output h3.size h3.block;obtain⟨q1,q2⟩:=r1.skip h2 0;refine⟨_,_,rfl,q1,⟨h3.os,h3.tape,h3.output,h3.size,q2,Nat.le_succ _,fun b hb _=>h3.block b hb,fun b q=>?_,fun i x hx hn=>?_⟩,.iface _ _ _ (.ptr _ 0 ⟨N,0,0⟩ (Bt.set_same _ _ _))⟩
      ·obtain⟨i,o,x,hi,ho,hx,rfl⟩:=q;have hi:H.get i=some o:=hi;obtain⟨z,hz⟩:=hR.has i o hi;rw[q2 i z hz]at hx;cases hx;exact .inr ⟨i,o,_,hi,ho,hz,rfl⟩
      ·unfold Bt.set at hx;split at hx
       ·cases hx;exact .inl h1
       ·rw[hn]at hx;cases hx
     rcases hc with rfl|rfl
     ·obtain⟨te,pe,hv⟩:=errIs hR (by rw[zfM];decide) hg hok;refine(Go.Proofs.Tryz.strconv_toError_range fn s i1 i2 _ w hs hv (.inr ⟨te,pe,rfl⟩)).mono fun e w' ⟨N,g1,g2,g3,g4⟩=>fin e w' ⟨N,g1,g2,?_,g4⟩;exact(Array.getElem?_eq_some_iff.1 g3).1
     ·obtain⟨te,pe,hv⟩:=errIs hR (by rw[zfM];decide) hg hok;refine(Go.Proofs.Tryz.strconv_toError_syntax fn s i1 i2 _ w hs hv (.inr ⟨te,pe,rfl⟩)).mono fun e w' ⟨N,g1,g2,g3,g4⟩=>fin e w' ⟨N,g1,g2,?_,g4⟩;exact(Array.getElem?_eq_some_iff.1 g3).1
    ·cases he
   ·cases he
  ·cases he
 ·cases he
theorem extE0:ExtC PP E0:=by
 intro f e hf args H v H' he args' w β hl hR;unfold E0 at hf;split at hf
 ·rename_i hf1;subst hf1;cases hf;unfold extFmt at he;split at he
  ·rename_i n;split at he
   ·rename_i hn;split at he
    ·rename_i cs ty fz hg;split at he
     ·rename_i hok;cases he;obtain⟨a',b',rfl,ha,hb⟩:=hl.two;cases ha;cases hb;have hT:=tabIs hR named_pow (by rw[zfM];decide) hg hok;refine(Go.Proofs.Tryz.internal_strconv_FormatInt_10 n hn.1 hn.2 w hT).mono fun x w' ⟨h1,k,os,h2⟩=>?_;subst h2
      obtain⟨r1,r2⟩:=zmk hR (w':=Go.Sort.grow (w.drewN k) os) rfl rfl rfl (by show w.heap.size≤(w.heap++os).size;rw[Array.size_append];omega) (fun b hb=>by
       show (w.heap++os)[b]?=_
       rw[Array.getElem?_append_left hb])
      exact⟨_,β,h1,r1,r2,.string _⟩
     ·cases he
    ·cases he
   ·cases he
  ·cases he
 ·split at hf
  ·rename_i hf2;subst hf2;cases hf;unfold zjs at he;split at he
   ·rename_i s;split at he
    ·rename_i hs;split at he
     ·rename_i cs ty fz hg;split at he
      ·rename_i hok;cases he;obtain⟨a',rfl,ha⟩:=hl.single;cases ha;have hT:=tabIs hR named_spc (by rw[zfM];decide) hg hok;refine(Go.Proofs.Tryz.strings_Fields_laid s w hs.1 (fun j b hb=>of_decide_eq_true (all_eq_true.1 hs.2 b (mem_of_getElem? hb))) hT).mono fun x w' ⟨h1,h2⟩=>?_;subst h2;subst h1;have hlr:LRel β ((Go.Lib.fields s.data.toList).map fun l=>Value.string ⟨l.toArray⟩) ((((Go.Lib.fields s.data.toList).map fun l=>Value.string ⟨l.toArray⟩).toArray).toList.take ((Go.Lib.fields s.data.toList).length)):=by
        have e:(((Go.Lib.fields s.data.toList).map fun l=>Value.string ⟨l.toArray⟩).toArray).toList.take ((Go.Lib.fields s.data.toList).length)=(Go.Lib.fields s.data.toList).map fun l=>Value.string ⟨l.toArray⟩:=by rw[take_of_length_le (by simp)]
        rw[e];refine⟨rfl,fun k v v' h1 h2=>?_⟩;rw[h1]at h2;cases h2;rw[List.getElem?_map]at h1;cases q:(Go.Lib.fields s.data.toList)[k]? with
        |none=>rw[q]at h1;cases h1
        |some l=>rw[q]at h1;cases h1;exact .string _
       obtain⟨g1,g2⟩:=hR.new_cells _ (((Go.Lib.fields s.data.toList).map fun l=>Value.string ⟨l.toArray⟩).toArray) 9 (0,0) _ hlr (by intro j hj;simp);refine⟨_,_,rfl,g1,g2,?_⟩;have:=VRel.slice (β:=β.set H.next ⟨w.heap.size,0,(((Go.Lib.fields s.data.toList).map fun l=>Value.string ⟨l.toArray⟩).toArray).size⟩) H.next 0 1 (Go.Lib.fields s.data.toList).length (Go.Lib.fields s.data.toList).length _ 0 (Go.Lib.fields s.data.toList).length (Bt.set_same _ _ _) (Nat.le_refl _) (Nat.le_refl _) (by simp) (by intro;rfl);exact this
      ·cases he
     ·cases he
    ·cases he
   ·cases he
  ·split at hf
   ·rename_i hf3;subst hf3;cases hf;exact extCC_ok he hl hR
   ·split at hf
    ·rename_i hf4;subst hf4;cases hf;exact extStr_ok he hl hR
    ·split at hf
     ·rename_i hf5;subst hf5;cases hf;exact extErr_ok he hl hR
     ·cases hf
end Go.AM
namespace Go.AM
open Go
def zah(op:Int):Int:=if op=1∨op=2∨op=3∨op=4 then 0 else if op=5∨op=15∨op=16∨op=31∨op=32∨op=33 then 1 else if op=14 then 3 else 2
theorem c29(op:Int)(H:Hp):RR Ax [.int .i64 op] H=some (.int .i64 (zah op),H):=by
 refine(zmn E0 rfl _ _).trans ?_;unfold zhJ;simp only[zac,s_br,zaO,zap,zez,zaN,za6,zfg,zay,decide_eq_true_eq,qg0];unfold zah;by_cases h1:op=1
 ·simp[h1]
 by_cases h2:op=2
 ·simp[h2]
 by_cases h3:op=3
 ·simp[h3]
 by_cases h4:op=4
 ·simp[h4]
 simp only[h1,h2,h3,h4,if_false,zap,zaN,zac,qg0,decide_false,Bool.false_eq_true,or_self,false_or];by_cases h5:op=5
 ·simp[h5]
 by_cases h6:op=15
 ·simp[h6]
 by_cases h7:op=16
 ·simp[h7]
 by_cases h8:op=31
 ·simp[h8]
 by_cases h9:op=32
 ·simp[h9]
 by_cases h10:op=33
 ·simp[h10]
 by_cases h11:op=14
 ·simp[h11]
 simp[h5,h6,h7,h8,h9,h10,h11]
end Go.AM
namespace Go.AM
open List Go
structure Nd where
 op:Int
 w:Int
 a:Int
 b:Int
 c:Int
 num:Int
 name:ByteArray
def Nd.cells(n:Nd):List Value:=[.int .i64 n.op,.int .i64 n.w,.int .i64 n.a,.int .i64 n.b,.int .i64 n.c,.int .u64 n.num,.string n.name]
def Nd.val(n:Nd):Value:=.agg n.cells.toArray
def SlR(H:Hp)(sl:Value)(L:List Nd):Prop:=
 (L=[]∧sl=.slice none 0 0)∨∃i,sl=.slice (some ⟨i,0,some 7⟩) L.length L.length∧H.get i=some (.cells (L.flatMap Nd.cells) true)
structure StR(H:Hp)(p:Nat)(lim:Int)(L:List Nd)(sl:Value)(f g:Nat):Prop where
 obj:H.get p=some (.cells [.int .i64 lim,sl,.map (some f),.map (some g)] true)
 all:SlR H sl L
section
variable {H:Hp}{p f g:Nat}{lim:Int}{L:List Nd}{sl:Value}(hs:StR H p lim L sl f g){α:Type}(k:Value→Option α)
include hs
theorem StR.l0:zal 1 false H (.pointer (some ⟨p,0,none⟩)) k=k (.int .i64 lim):=zbe hs.obj 0 _ rfl k
theorem StR.l1:zal 1 false H (.pointer (some ⟨p,1,none⟩)) k=k sl:=zbe hs.obj 1 _ rfl k
theorem StR.l2:zal 1 false H (.pointer (some ⟨p,2,none⟩)) k=k (.map (some f)):=zbe hs.obj 2 _ rfl k
theorem StR.l3:zal 1 false H (.pointer (some ⟨p,3,none⟩)) k=k (.map (some g)):=zbe hs.obj 3 _ rfl k
end
theorem SlR.len{H:Hp}{sl:Value}{L:List Nd}(h:SlR H sl L){α:Type}(k:Value→Option α):pLen .sl sl H k=k (.int .i64 L.length):=by rcases h with⟨rfl,rfl⟩|⟨i,rfl,_⟩<;>rfl
theorem zqp(L:List Nd)(i j:Nat)(hj:j<7):(L.flatMap Nd.cells)[i*7+j]?=L[i]?.bind fun n=>n.cells[j]?:=by
 induction L generalizing i with
 |nil=>simp
 |cons n L ih=>
  rw[flatMap_cons];cases i with
  |zero=>rw[Nat.zero_mul,Nat.zero_add,List.getElem?_append_left (by simp[Nd.cells];omega)];rfl
  |succ i=>
   have h7:n.cells.length=7:=rfl;rw[List.getElem?_append_right (by omega),h7,show (i+1)*7+j-7=i*7+j by omega];exact ih i
theorem flat_len(L:List Nd):(L.flatMap Nd.cells).length=L.length*7:=by
 induction L with
 |nil=>rfl
 |cons n L ih=>
  have h7:n.cells.length=7:=rfl;rw[flatMap_cons,length_append,ih,length_cons,h7];omega
def isT(L:List Nd)(t:Int):Bool:=decide (t≥1)&&decide (t≤L.length)
theorem c19{H:Hp}{p f g:Nat}{lim t:Int}{L:List Nd}{sl:Value}(hs:StR H p lim L sl f g):RR AL [.pointer (some ⟨p,0,none⟩),.int .i64 t] H=some (.bool (isT L t),H):=by refine(ziJ E0 rfl _ _ _).trans ?_;unfold zfn;simp only[zac,s_br,zcQ,zbg,zaI,zf5,Nat.zero_add,hs.l1,hs.all.len,decide_eq_true_eq];unfold isT;by_cases h:t≥1<;>simp[h]
theorem zcF{k:IntKind}{n:Int}(h1:k.min≤n)(h2:n≤k.max):k.wrap n=n:=by cases k<;>simp[IntKind.wrap,IntKind.min,IntKind.max,IntKind.signed,IntKind.bits] at * <;> omega
def wT(L:List Nd)(d t:Int):Int:=if isT L t then (L[(t-1).toNat]?.map Nd.w).getD d else d
theorem za7{L:List Nd}{t:Int}:isT L t=true↔1≤t∧t≤L.length:=by unfold isT;simp
theorem s_idx{H:Hp}{L:List Nd}{sl:Value}(h:SlR H sl L){t:Int}(ht:isT L t=true)(hL:(L.length:Int)≤4611686018427387904){α:Type}(k:Value→Option α) :
  ∃i n,L[(t-1).toNat]?=some n∧H.get i=some (.cells (L.flatMap Nd.cells) true)∧pIdx 7 sl (.int .i64 (IntKind.i64.wrap (t-1))) k=k (.pointer (some ⟨i,(t-1).toNat*7,none⟩)):=by
 obtain⟨h1,h2⟩:=za7.1 ht;have hw:IntKind.i64.wrap (t-1)=t-1:=zcF (by simp[IntKind.min,IntKind.signed,IntKind.bits];omega) (by simp[IntKind.max,IntKind.signed,IntKind.bits];omega);rcases h with⟨rfl,rfl⟩|⟨i,rfl,hi⟩
 ·simp at h2;omega
 ·have hlt:(t-1).toNat<L.length:=by omega
  refine⟨i,L[(t-1).toNat],by simp[hlt],hi,?_⟩;rw[hw];unfold pIdx idxV;have:(7:Nat)=7∧0≤t-1∧t-1<(L.length:Int):=⟨rfl,by omega,by omega⟩
  simp only[this,and_self,if_true,Nat.zero_add]
theorem c40{H:Hp}{p f g:Nat}{lim t:Int}{L:List Nd}{sl:Value}(hs:StR H p lim L sl f g)(hL:(L.length:Int)≤4611686018427387904):RR Aj [.pointer (some ⟨p,0,none⟩),.int .i64 t] H=some (.int .i64 (wT L (-1) t),H):=by
 refine(zjU E0 rfl _ _ _).trans ?_;unfold zfU;simp only[zae (c19 hs),zac,s_br,zb9,zbg,zaI,zc0,Nat.zero_add,hs.l1];unfold wT;cases ht:isT L t with
 |false=>simp
 |true=>
  obtain⟨i,n,hn,hi,hx⟩:=s_idx hs.all ht hL (fun p8=>zas 1 p8 fun p9=>zal 1 false H p9 fun v10=>some (v10,H));simp only[Bool.not_true,Bool.false_eq_true,if_false,if_true];rw[hx,zaI,zbe hi _ (.int .i64 n.w) (by rw[zqp _ _ _ (by omega),hn];rfl),hn];rfl
end Go.AM
namespace Go.AM
open Go
section
variable {α:Type}{P:Program}(n:Nd)(k:Value→Option α)
theorem n0:zai 1 false (zab n.val) 0 k=k (.int .i64 n.op):=zd8 _ 0 _ rfl k
theorem n1:zai 1 false (zab n.val) 1 k=k (.int .i64 n.w):=zd8 _ 1 _ rfl k
theorem n2:zai 1 false (zab n.val) 2 k=k (.int .i64 n.a):=zd8 _ 2 _ rfl k
theorem n3:zai 1 false (zab n.val) 3 k=k (.int .i64 n.b):=zd8 _ 3 _ rfl k
theorem n4:zai 1 false (zab n.val) 4 k=k (.int .i64 n.c):=zd8 _ 4 _ rfl k
theorem n5:zai 1 false (zab n.val) 5 k=k (.int .u64 n.num):=zd8 _ 5 _ rfl k
theorem n6:zai 1 false (zab n.val) 6 k=k (.string n.name):=zd8 _ 6 _ rfl k
theorem n07:zai 7 true (zab n.val) 0 k=k n.val:=rfl
theorem s_sneq(T:TypeId)(a b:ByteArray)(k:Value→Option α):pBin P .neq T (.string a) (.string b) k=k (.bool !(a.toList==b.toList)):=rfl
end
theorem s_ite(p:Prop) [Decidable p](x y:Bool)(H:Hp):(if p then some (Value.bool x,H) else some (Value.bool y,H))=some (Value.bool (bif decide p then x else y),H):=by by_cases h:p<;>simp[h]
def zi6(n:Nd):Bool:=!(n.name.toList==(⟨#[]⟩:ByteArray).toList)
def zex(k:Int)(n:Nd):Bool:=
 (decide (k<1)&&decide (n.a≠0))||(decide (k<2)&&decide (n.b≠0))||(decide (k<3)&&decide (n.c≠0)) ||
 (decide (n.num≠0)&&decide (n.op≠3)&&decide (n.op≠31))||(zi6 n&&decide (n.op≠4))
theorem c41(n:Nd)(H:Hp):RR B6 [n.val] H=some (.bool (zex (zah n.op) n),H):=by refine(zmm E0 rfl _ _).trans ?_;unfold zhI;simp only[n0,n2,n3,n4,n5,n6,zae (c29 _ _),za3,zbt,s_sneq,zac,s_br,s_ite];unfold zex zi6;generalize zah n.op=k;congr 2;congr 1;generalize decide (k<1)=b1;generalize decide (n.a≠0)=b2;generalize decide (k<2)=b3;generalize decide (n.b≠0)=b4;generalize decide (k<3)=b5;generalize decide (n.c≠0)=b6;generalize decide (n.num≠0)=b7;generalize decide (n.op≠3)=b8;generalize decide (n.op≠31)=b9;generalize (!(n.name.toList==(⟨#[]⟩:ByteArray).toList))=b10;generalize decide (n.op≠4)=b11;simp only[Bool.decide_eq_true];cases b1<;>cases b2<;>cases b3<;>cases b4<;>cases b5<;>cases b6<;>simp<;>cases b7<;>cases b8<;>cases b9<;>simp<;>cases b10<;>simp
theorem zfQ(v:Value)(l:List Value):(v::l).headD undef=v:=rfl
def zbC(op a b c:Int):Bool:=
 if zah op=0 then true
 else if op=5 then decide (a=0)
 else if op=6∨op=7∨op=8 then decide (a=0)&&decide (b=0)
 else if op=9 then decide (a=b)
 else if op=14 then decide (a=0)&&decide (b=c)
 else if op=30 then decide (a>0)&&decide (b>0)
 else if zah op=1 then decide (a>0)
 else decide (a>0)&&decide (a=b)
section
variable {H:Hp}{p f g:Nat}{lim:Int}{L:List Nd}{sl:Value}
theorem c42(hs:StR H p lim L sl f g)(hL:(L.length:Int)≤4611686018427387904)(n:Nd) :
  RR B4 [.pointer (some ⟨p,0,none⟩),n.val] H=some (.bool (zbC n.op (wT L (-1) n.a) (wT L (-1) n.b) (wT L (-1) n.c)),H):=by
 refine(zf8 E0 rfl _ _ _).trans ?_;unfold zdY;simp only[n0,n2,n3,n4,zae (c40 hs hL),zae (c29 _ _),zaO,zci,zac,s_br,zap,zez,zaN,za6,zfg,zay,zfQ,qg0,decide_eq_true_eq,if_true];unfold zbC;generalize wT L (-1) n.a=a;generalize wT L (-1) n.b=b;generalize wT L (-1) n.c=c;generalize n.op=op;by_cases h0:zah op=0
 ·simp only[h0,if_true]
 simp only[h0,if_false];by_cases h5:op=5
 ·simp only[h5,if_true]
 simp only[h5,if_false];by_cases h6:op=6
 ·simp[h6,s_ite]
 by_cases h7:op=7
 ·simp[h7,s_ite]
 by_cases h8:op=8
 ·simp[h8,s_ite]
 simp only[h6,h7,h8,if_false,or_self];by_cases h9:op=9
 ·simp[h9]
 simp only[h9,if_false];by_cases h14:op=14
 ·simp[h14];by_cases q:a=0<;>simp[q]
 simp only[h14,if_false];by_cases h30:op=30
 ·simp[h30];by_cases q:a>0<;>simp[q]
 simp only[h30,if_false];by_cases h1:zah op=1
 ·simp[h1]
 simp only[h1,if_false];by_cases q:a>0<;>simp[q]
end
theorem s_rem{α:Type}{P:Program}(T:TypeId)(kd:IntKind)(a b:Int)(hb:b≠0)(k:Value→Option α):pBin P .rem T (.int kd a) (.int kd b) k=k (.int kd (a.tmod b)):=by simp[pBin,binV,zd4,hb]
theorem zhE{α:Type}(kd k2:IntKind)(a:Int)(k:Value→Option α):zaj kd (.int k2 a) k=k (.int kd (kd.wrap a)):=rfl
theorem s_and{α:Type}{P:Program}(T:TypeId)(kd:IntKind)(a b:Int)(k:Value→Option α):pBin P .and T (.int kd a) (.int kd b) k=k (.int kd (kd.wrap (BitVec.ofInt kd.bits a&&&BitVec.ofInt kd.bits b).toNat)):=by simp[pBin,binV,zd4,bvOp]
theorem s_shl{α:Type}{P:Program}(T:TypeId)(kd k2:IntKind)(a b:Int)(hb:0≤b)(k:Value→Option α):pBin P .shl T (.int kd a) (.int k2 b) k=k (.int kd (kd.wrap (a*2^(min b.toNat kd.bits)))):=by
 have:¬b<0:=by omega
 simp[pBin,binV,shOp,this]
def zdR(w x:Int):Int:=if w<1 then 0 else if w≥64 then x else x%2^w.toNat
theorem zlp{w:Int}(h1:1≤w)(h2:w<64):(2:Int)^w.toNat<18446744073709551616∧(2:Int)≤2^w.toNat:=by
 have hw:w.toNat<64:=by omega
 have hw1:1≤w.toNat:=by omega
 have h3:(2:Nat)^w.toNat<2^64:=Nat.pow_lt_pow_right (by omega) hw;have h4:(2:Nat)^1≤2^w.toNat:=Nat.pow_le_pow_right (by omega) hw1;constructor
 ·have:((2^w.toNat:Nat):Int)<((2^64:Nat):Int):=Int.ofNat_lt.2 h3;simpa using this
 ·have:((2^1:Nat):Int)≤((2^w.toNat:Nat):Int):=Int.ofNat_le.2 h4;simpa using this
theorem zow{w:Int}(h1:1≤w)(h2:w<64):IntKind.u64.wrap (1*2^(min (IntKind.u64.wrap w).toNat IntKind.u64.bits))=2^w.toNat:=by have hw:IntKind.u64.wrap w=w:=zcF (by simp[IntKind.min,IntKind.signed,IntKind.bits];omega) (by simp[IntKind.max,IntKind.signed,IntKind.bits];omega);rw[hw];have hb:IntKind.u64.bits=64:=rfl;rw[hb,Nat.min_eq_left (by omega),Int.one_mul];obtain⟨p1,p2⟩:=zlp h1 h2;exact zcF (by simp[IntKind.min,IntKind.signed,IntKind.bits];omega) (by simp[IntKind.max,IntKind.signed,IntKind.bits];omega)
theorem c45(w x:Int)(hx:0≤x)(hx2:x<18446744073709551616)(H:Hp):RR Af [.int .i64 w,.int .u64 x] H=some (.int .u64 (zdR w x),H):=by
 refine(znJ E0 rfl _ _ _).trans ?_;unfold zjf zdR;simp only[za3,zcQ,zac,s_br,decide_eq_true_eq,zhE];by_cases h1:w<1
 ·simp[h1]
 by_cases h2:w≥64
 ·simp[h1,h2]
 simp only[h1,h2,if_false];have hw:IntKind.u64.wrap w=w:=zcF (by simp[IntKind.min,IntKind.signed,IntKind.bits];omega) (by simp[IntKind.max,IntKind.signed,IntKind.bits];omega);obtain⟨p1,p2⟩:=zlp (w:=w) (by omega) (by omega);rw[s_shl _ _ _ _ _ (by rw[hw];omega),zow (by omega) (by omega),zc0,s_and];have hm:IntKind.u64.wrap (2^w.toNat-1)=2^w.toNat-1:=zcF (by simp[IntKind.min,IntKind.signed,IntKind.bits];omega) (by simp[IntKind.max,IntKind.signed,IntKind.bits];omega);rw[hm];congr 3;have hb:IntKind.u64.bits=64:=rfl;rw[hb];obtain⟨X,rfl⟩:=Int.eq_ofNat_of_zero_le hx;have e2:(2:Int)^w.toNat-1=((2^w.toNat-1:Nat):Int):=by have:1≤(2:Nat)^w.toNat:=Nat.one_le_two_pow;rw[Int.ofNat_sub this];simp
 rw[e2];have e3:BitVec.ofInt 64 ((X:Nat):Int)=BitVec.ofNat 64 X:=by simp
 have e4:BitVec.ofInt 64 (((2^w.toNat-1:Nat)):Int)=BitVec.ofNat 64 (2^w.toNat-1):=by simp
 rw[e3,e4,BitVec.toNat_and,BitVec.toNat_ofNat,BitVec.toNat_ofNat];have hX:X<2^64:=by have:(X:Int)<18446744073709551616:=hx2;omega
 have h3:(2:Nat)^w.toNat<2^64:=Nat.pow_lt_pow_right (by omega) (by omega);rw[Nat.mod_eq_of_lt hX,Nat.mod_eq_of_lt (by omega),Nat.and_two_pow_sub_one_eq_mod];have h4:X%2^w.toNat≤X:=Nat.mod_le _ _;have h5:((X:Nat):Int)%2^w.toNat=((X%2^w.toNat:Nat):Int):=by simp
 rw[h5];generalize X%2^w.toNat=Y at h4;have m1:IntKind.u64.min=0:=rfl;have m2:IntKind.u64.max=18446744073709551615:=rfl;rw[zcF (by rw[m1];omega) (by rw[m2];omega)]
def isPow(w:Int):Bool:=decide (w=1∨w=2∨w=4∨w=8∨w=16∨w=32∨w=64)
def pops:List Int:=[0,1,1,2,1,2,2,3,1,2,2,3,2,3,3,4,1,2,2,3,2,3,3,4,2,3,3,4,3,4,4,5,1,2,2,3,2,3,3,4,2,3,3,4,3,4,4,5,2,3,3,4,3,4,4,5,3,4,4,5,4,5,5,6,1]
theorem all58(H:Hp):(i:Nat)→i<65→zel RR (.int .u64 (i:Int)) H=some (.int .i64 (pops.getD i 0),H)
 |0,_=>by kernel_rfl
 |1,_=>by kernel_rfl
 |2,_=>by kernel_rfl
 |3,_=>by kernel_rfl
 |4,_=>by kernel_rfl
 |5,_=>by kernel_rfl
 |6,_=>by kernel_rfl
 |7,_=>by kernel_rfl
 |8,_=>by kernel_rfl
 |9,_=>by kernel_rfl
 |10,_=>by kernel_rfl
 |11,_=>by kernel_rfl
 |12,_=>by kernel_rfl
 |13,_=>by kernel_rfl
 |14,_=>by kernel_rfl
 |15,_=>by kernel_rfl
 |16,_=>by kernel_rfl
 |17,_=>by kernel_rfl
 |18,_=>by kernel_rfl
 |19,_=>by kernel_rfl
 |20,_=>by kernel_rfl
 |21,_=>by kernel_rfl
 |22,_=>by kernel_rfl
 |23,_=>by kernel_rfl
 |24,_=>by kernel_rfl
 |25,_=>by kernel_rfl
 |26,_=>by kernel_rfl
 |27,_=>by kernel_rfl
 |28,_=>by kernel_rfl
 |29,_=>by kernel_rfl
 |30,_=>by kernel_rfl
 |31,_=>by kernel_rfl
 |32,_=>by kernel_rfl
 |33,_=>by kernel_rfl
 |34,_=>by kernel_rfl
 |35,_=>by kernel_rfl
 |36,_=>by kernel_rfl
 |37,_=>by kernel_rfl
 |38,_=>by kernel_rfl
 |39,_=>by kernel_rfl
 |40,_=>by kernel_rfl
 |41,_=>by kernel_rfl
 |42,_=>by kernel_rfl
 |43,_=>by kernel_rfl
 |44,_=>by kernel_rfl
 |45,_=>by kernel_rfl
 |46,_=>by kernel_rfl
 |47,_=>by kernel_rfl
 |48,_=>by kernel_rfl
 |49,_=>by kernel_rfl
 |50,_=>by kernel_rfl
 |51,_=>by kernel_rfl
 |52,_=>by kernel_rfl
 |53,_=>by kernel_rfl
 |54,_=>by kernel_rfl
 |55,_=>by kernel_rfl
 |56,_=>by kernel_rfl
 |57,_=>by kernel_rfl
 |58,_=>by kernel_rfl
 |59,_=>by kernel_rfl
 |60,_=>by kernel_rfl
 |61,_=>by kernel_rfl
 |62,_=>by kernel_rfl
 |63,_=>by kernel_rfl
 |64,_=>by kernel_rfl
 |n+65,h=>by omega
theorem c53(w:Int)(h0:0≤w)(h1:w<65)(H:Hp):RR AV [.int .u64 w] H=some (.int .i64 (pops.getD w.toNat 0),H):=by
 refine(zh1 E0 rfl _ _).trans ?_;unfold ze9;have:RR BK [.int .u64 w] H=some (.int .i64 (pops.getD w.toNat 0),H):=by refine(zgH E0 rfl _ _).trans ?_;obtain⟨n,rfl⟩:=Int.eq_ofNat_of_zero_le h0;exact all58 H n (by omega)
 rw[zae this]
theorem zo2:(i:Nat)→i<65→decide (pops.getD i 0=1)=isPow (i:Int)
 |0,_=>by kernel_rfl
 |1,_=>by kernel_rfl
 |2,_=>by kernel_rfl
 |3,_=>by kernel_rfl
 |4,_=>by kernel_rfl
 |5,_=>by kernel_rfl
 |6,_=>by kernel_rfl
 |7,_=>by kernel_rfl
 |8,_=>by kernel_rfl
 |9,_=>by kernel_rfl
 |10,_=>by kernel_rfl
 |11,_=>by kernel_rfl
 |12,_=>by kernel_rfl
 |13,_=>by kernel_rfl
 |14,_=>by kernel_rfl
 |15,_=>by kernel_rfl
 |16,_=>by kernel_rfl
 |17,_=>by kernel_rfl
 |18,_=>by kernel_rfl
 |19,_=>by kernel_rfl
 |20,_=>by kernel_rfl
 |21,_=>by kernel_rfl
 |22,_=>by kernel_rfl
 |23,_=>by kernel_rfl
 |24,_=>by kernel_rfl
 |25,_=>by kernel_rfl
 |26,_=>by kernel_rfl
 |27,_=>by kernel_rfl
 |28,_=>by kernel_rfl
 |29,_=>by kernel_rfl
 |30,_=>by kernel_rfl
 |31,_=>by kernel_rfl
 |32,_=>by kernel_rfl
 |33,_=>by kernel_rfl
 |34,_=>by kernel_rfl
 |35,_=>by kernel_rfl
 |36,_=>by kernel_rfl
 |37,_=>by kernel_rfl
 |38,_=>by kernel_rfl
 |39,_=>by kernel_rfl
 |40,_=>by kernel_rfl
 |41,_=>by kernel_rfl
 |42,_=>by kernel_rfl
 |43,_=>by kernel_rfl
 |44,_=>by kernel_rfl
 |45,_=>by kernel_rfl
 |46,_=>by kernel_rfl
 |47,_=>by kernel_rfl
 |48,_=>by kernel_rfl
 |49,_=>by kernel_rfl
 |50,_=>by kernel_rfl
 |51,_=>by kernel_rfl
 |52,_=>by kernel_rfl
 |53,_=>by kernel_rfl
 |54,_=>by kernel_rfl
 |55,_=>by kernel_rfl
 |56,_=>by kernel_rfl
 |57,_=>by kernel_rfl
 |58,_=>by kernel_rfl
 |59,_=>by kernel_rfl
 |60,_=>by kernel_rfl
 |61,_=>by kernel_rfl
 |62,_=>by kernel_rfl
 |63,_=>by kernel_rfl
 |64,_=>by kernel_rfl
 |n+65,h=>by omega
def zbB(n:Nd)(a b:Int):Bool:=
 if n.op=1∨n.op=2∨(5≤n.op∧n.op≤13) then decide (n.w=0)
 else if n.op=3 then decide (n.w>0)&&decide (zdR n.w n.num=n.num)
 else if n.op=4 then true
 else if n.op=14 then decide (n.w=b)
 else if 25≤n.op∧n.op≤29 then decide (n.w=a)&&isPow a
 else if n.op=30 then decide (n.w=a+b)
 else if n.op=31 then decide (n.w≥1)&&decide (n.w≤a)&&decide (n.num≤a-n.w)
 else if n.op=32∨n.op=33 then decide (n.w≥a)
 else decide (n.w=a)
structure Nd.Ok(n:Nd):Prop where
 w0:0≤n.w
 w1:n.w≤64
 o1:1≤n.op
 o2:n.op≤33
 n0:0≤n.num
 n1:n.num<18446744073709551616
theorem zaA{x:Int}(h1:-9223372036854775808≤x)(h2:x≤9223372036854775807):IntKind.i64.wrap x=x:=zcF (by have:IntKind.i64.min=-9223372036854775808:=rfl;omega) (by have:IntKind.i64.max=9223372036854775807:=rfl;omega)
theorem zh8{x:Int}(h1:0≤x)(h2:x≤18446744073709551615):IntKind.u64.wrap x=x:=zcF (by have:IntKind.u64.min=0:=rfl;omega) (by have:IntKind.u64.max=18446744073709551615:=rfl;omega)
section
variable {H:Hp}{p f g:Nat}{lim:Int}{L:List Nd}{sl:Value}
theorem c43(hs:StR H p lim L sl f g)(hL:(L.length:Int)≤4611686018427387904)(n:Nd)(hn:n.Ok)
  (ha:-1≤wT L (-1) n.a∧wT L (-1) n.a≤64) (hb:-1≤wT L (-1) n.b∧wT L (-1) n.b≤64) (hsort:n.op≥15→wT L (-1) n.a>0) :
  RR B5 [.pointer (some ⟨p,0,none⟩),n.val] H=some (.bool (zbB n (wT L (-1) n.a) (wT L (-1) n.b)),H):=by
 refine(zhj E0 rfl _ _ _).trans ?_;unfold zeI;have ht:=c45 n.w n.num hn.n0 hn.n1 H;simp only[n0,n1,n2,n3,n5,zae (c40 hs hL),zaO,zci,zcQ,zf5,zac,s_br,zap,zez,zaN,za6,zfg,zay,zfQ,qg0,decide_eq_true_eq,if_true,zhE,zc0,zaM,zae ht];unfold zbB;generalize wT L (-1) n.a=a at *;generalize wT L (-1) n.b=b at *;have o1:=hn.o1;have o2:=hn.o2;by_cases h1:n.op=1
 ·simp[h1]
 by_cases h2:n.op=2
 ·simp[h2]
 by_cases h5:5≤n.op∧n.op≤13
 ·have q:n.op≥5:=h5.1;simp only[h1,h2,h5,q,if_true,if_false,and_self,or_true,decide_true]
 have hc:¬(n.op=1∨n.op=2∨5≤n.op∧n.op≤13):=by omega
 simp only[hc,h1,h2,if_false];by_cases h3:n.op=3
 ·have q:¬n.op≥5:=by omega
  have q2:¬(3:Int)≥5:=by decide
  simp only[h3,q2,if_true,if_false,Bool.false_eq_true];by_cases q:n.w>0<;>simp[q]
 by_cases h4:n.op=4
 ·have q2:¬(4:Int)≥5:=by decide
  have q3:¬(4:Int)=3:=by decide
  simp only[h4,q2,q3,if_true,if_false,Bool.false_eq_true];simp
 have g5:n.op≥5:=by omega
 have g13:¬n.op≤13:=by omega
 simp only[g5,g13,h3,h4,if_true,if_false,decide_false,Bool.false_eq_true];by_cases h14:n.op=14
 ·simp only[h14,if_true];simp
 simp only[h14,if_false];have hap:=hsort (by omega);by_cases h25:25≤n.op∧n.op≤29
 ·have q:n.op≥25:=h25.1;have e:RR AV [.int .u64 (IntKind.u64.wrap a)] H=some (.int .i64 (pops.getD a.toNat 0),H):=by rw[zh8 (by omega) (by omega)];exact c53 a (by omega) (by omega) H
  have e2:=zo2 a.toNat (by omega);have e3:((a.toNat:Nat):Int)=a:=Int.toNat_of_nonneg (by omega);rw[e3]at e2;simp only[q,h25.2,if_true,decide_true,zae e,zaO,e2,and_self];by_cases q:n.w=a<;>simp[q,h25.1]
 simp only[h25,if_false];have hA:(if n.op≥25 then some (Ctl.next,[Value.bool (decide (n.op≤29))],H) else some (Ctl.next,[Value.bool false],H))=some (Ctl.next,[Value.bool false],H):=by
  by_cases q:n.op≥25
  ·have:¬n.op≤29:=by omega
   simp[q,this]
  ·simp[q]
 have w1:IntKind.i64.wrap (a+b)=a+b:=zaA (by omega) (by omega);have w0:=hn.w0;have w64:=hn.w1;have w2:IntKind.i64.wrap (a-n.w)=a-n.w:=zaA (by omega) (by omega);by_cases q25:n.op≥25
 ·have q29:¬n.op≤29:=by omega
  simp only[q25,q29,if_true,if_false,decide_false,Bool.false_eq_true,w1,w2];by_cases h30:n.op=30
  ·simp only[h30,if_true]
   try simp
  simp only[h30,if_false];by_cases h31:n.op=31
  ·simp only[h31,if_true];by_cases k1:n.w≥1
   ·by_cases k2:n.w≤a
    ·have k3:IntKind.u64.wrap (a-n.w)=a-n.w:=zh8 (by omega) (by omega);simp[k1,k2,k3]
    ·simp[k1,k2]
   ·simp[k1]
  simp only[h31,if_false];by_cases h32:n.op=32
  ·simp[h32]
  by_cases h33:n.op=33
  ·simp[h33]
  omega
 ·have h30:¬n.op=30:=by omega
  have h31:¬n.op=31:=by omega
  have h32:¬n.op=32:=by omega
  have h33:¬n.op=33:=by omega
  simp only[q25,h30,h31,h32,h33,if_false,or_self,Bool.false_eq_true];simp
end
section
end
def zfX(x:Int):Bool:=(decide (x≥97)&&decide (x≤122))||(decide (x≥65)&&decide (x≤90))||decide (x=95)
def zql(x:Int):Bool:=!(decide (x<48))&&!(decide (x>57))
def zkp(b:UInt8):Bool:=zfX (b.toNat:Int)||zql (b.toNat:Int)
def zcB(s:ByteArray):Bool:=decide (s.size≥1)&&decide (s.size≤24)&&(s.data.toList.head?.any fun b=>zfX (b.toNat:Int))&&(s.data.toList.drop 1).all zkp
theorem s_slen{α:Type}(s:ByteArray)(H:Hp)(k:Value→Option α):pLen .str (.string s) H k=k (.int .i64 s.size):=rfl
end Go.AM
namespace Go.AM
open List Go
theorem zob{x:Int}(h:128≤x):zfX x=false:=by
 unfold zfX;have h1:¬x≤122:=by omega
 have h2:¬x≤90:=by omega
 have h3:¬x=95:=by omega
 simp[h1,h2,h3]
theorem zqk{x:Int}(h:128≤x):zql x=false:=by
 unfold zql;have h1:x>57:=by omega
 simp[h1]
theorem c44(s:ByteArray)(H:Hp):RR Bc [.string s] H=some (.bool (zcB s),H):=by
 refine(znL E0 rfl _ _).trans ?_;unfold zjh
 generalize hS:(fun (l12:List Value) (H13:Hp)=>
 br (Nat.blt (za1 ((l12.drop 0).getD 0 undef)) (za4 ((l12.drop 0).getD 0 undef)).size)
 (zau (
 pBin PP .geq Ag (.int .i32 (Utf8.decode (za4 ((l12.drop 0).getD 0 undef)) (za1 ((l12.drop 0).getD 0 undef))).1) (.int .i32 97) fun v14=>
 zaa v14 fun b15=>br b15
 (pBin PP .leq Ag (.int .i32 (Utf8.decode (za4 ((l12.drop 0).getD 0 undef)) (za1 ((l12.drop 0).getD 0 undef))).1) (.int .i32 122) fun v16=>
 zaa v16 fun b17=>br b17
 (some (Ctl.next,[(.bool true)],H13))
 (pBin PP .geq Ag (.int .i32 (Utf8.decode (za4 ((l12.drop 0).getD 0 undef)) (za1 ((l12.drop 0).getD 0 undef))).1) (.int .i32 65) fun v18=>
 zaa v18 fun b19=>br b19
 (pBin PP .leq Ag (.int .i32 (Utf8.decode (za4 ((l12.drop 0).getD 0 undef)) (za1 ((l12.drop 0).getD 0 undef))).1) (.int .i32 90) fun v20=>
 zaa v20 fun b21=>br b21
 (some (Ctl.next,[(.bool true)],H13))
 (pBin PP .eql Ag (.int .i32 (Utf8.decode (za4 ((l12.drop 0).getD 0 undef)) (za1 ((l12.drop 0).getD 0 undef))).1) (.int .i32 95) fun v22=>
 some (Ctl.next,[v22],H13)))
 (pBin PP .eql Ag (.int .i32 (Utf8.decode (za4 ((l12.drop 0).getD 0 undef)) (za1 ((l12.drop 0).getD 0 undef))).1) (.int .i32 95) fun v23=>
 some (Ctl.next,[v23],H13))))
 (pBin PP .geq Ag (.int .i32 (Utf8.decode (za4 ((l12.drop 0).getD 0 undef)) (za1 ((l12.drop 0).getD 0 undef))).1) (.int .i32 65) fun v24=>
 zaa v24 fun b25=>br b25
 (pBin PP .leq Ag (.int .i32 (Utf8.decode (za4 ((l12.drop 0).getD 0 undef)) (za1 ((l12.drop 0).getD 0 undef))).1) (.int .i32 90) fun v26=>
 zaa v26 fun b27=>br b27
 (some (Ctl.next,[(.bool true)],H13))
 (pBin PP .eql Ag (.int .i32 (Utf8.decode (za4 ((l12.drop 0).getD 0 undef)) (za1 ((l12.drop 0).getD 0 undef))).1) (.int .i32 95) fun v28=>
 some (Ctl.next,[v28],H13)))
 (pBin PP .eql Ag (.int .i32 (Utf8.decode (za4 ((l12.drop 0).getD 0 undef)) (za1 ((l12.drop 0).getD 0 undef))).1) (.int .i32 95) fun v29=>
 some (Ctl.next,[v29],H13)))) fun q30 l31 H32=>zaC q30
 (pUn .not (l31.getD 0 undef) fun v34=>
 zaa v34 fun b35=>br b35
 (pBin PP .eql Aa (.int .i64 ((za1 ((l12.drop 0).getD 0 undef)):Nat)) (.int .i64 0) fun v36=>
 zaa v36 fun b37=>br b37
 (some (Ctl.ret,[(.bool false)],H32))
 (pBin PP .lss Ag (.int .i32 (Utf8.decode (za4 ((l12.drop 0).getD 0 undef)) (za1 ((l12.drop 0).getD 0 undef))).1) (.int .i32 48) fun v38=>
 zaa v38 fun b39=>br b39
 (some (Ctl.ret,[(.bool false)],H32))
 (pBin PP .gtr Ag (.int .i32 (Utf8.decode (za4 ((l12.drop 0).getD 0 undef)) (za1 ((l12.drop 0).getD 0 undef))).1) (.int .i32 57) fun v40=>
 zaa v40 fun b41=>br b41
 (some (Ctl.ret,[(.bool false)],H32))
 (some (Ctl.next,[(.tuple #[.string (za4 ((l12.drop 0).getD 0 undef)),.int .i64 (((za1 ((l12.drop 0).getD 0 undef))+(Utf8.decode (za4 ((l12.drop 0).getD 0 undef)) (za1 ((l12.drop 0).getD 0 undef))).2):Nat)])],H32)))))
 (some (Ctl.next,[(.tuple #[.string (za4 ((l12.drop 0).getD 0 undef)),.int .i64 (((za1 ((l12.drop 0).getD 0 undef))+(Utf8.decode (za4 ((l12.drop 0).getD 0 undef)) (za1 ((l12.drop 0).getD 0 undef))).2):Nat)])],H32)))
 (fun i33=>zav i33 1 (
 some (Ctl.next,[(.tuple #[.string (za4 ((l12.drop 0).getD 0 undef)),.int .i64 (((za1 ((l12.drop 0).getD 0 undef))+(Utf8.decode (za4 ((l12.drop 0).getD 0 undef)) (za1 ((l12.drop 0).getD 0 undef))).2):Nat)])],H32)) (
 some (Ctl.exit i33,[(.tuple #[.string (za4 ((l12.drop 0).getD 0 undef)),.int .i64 (((za1 ((l12.drop 0).getD 0 undef))+(Utf8.decode (za4 ((l12.drop 0).getD 0 undef)) (za1 ((l12.drop 0).getD 0 undef))).2):Nat)])],H32)))
 (some (Ctl.ret,[(l31.headD undef)],H32)))
 (some (Ctl.exit 0,[(.tuple #[.string (za4 ((l12.drop 0).getD 0 undef)),.int .i64 ((za1 ((l12.drop 0).getD 0 undef)):Nat)])],H13)))=S
 have hlen:s.data.toList.length=s.size:=by simp
 have hstep:∀(i:Nat) (b:UInt8),s.data.toList[i]?=some b→S [.tuple #[.string s,.int .i64 (i:Nat)]] H =
   if (zfX (b.toNat:Int)||(decide (i≠0)&&zql (b.toNat:Int)))=true then some (.next,[.tuple #[.string s,.int .i64 ((i+1:Nat))]],H) else some (.ret,[.bool false],H):=by
  intro i b hb;have hl:i<s.data.toList.length:=(List.getElem?_eq_some_iff.1 hb).1;have hi:i<s.size:=by omega
  have hsb:s[i]'hi=b:=by have:s[i]=s.data[i]'(by simpa using hl):=rfl;rw[this];rw[List.getElem?_eq_getElem hl]at hb;simpa using hb
  have e1:za4 (.tuple #[.string s,.int .i64 (i:Nat)])=s:=rfl;have e2:za1 (.tuple #[.string s,.int .i64 (i:Nat)])=i:=by simp[za1]
  have e3:Nat.blt i s.size=true:=Nat.ble_eq_true_of_le hi;have e4:((i:Nat):Int)=0↔i=0:=by omega
  rw[←hS];simp only[qd0,qg0,e1,e2,e3];simp only[zcQ,zf5,zaO,za3,zci,zac,s_br,zap,zez,zaN,zb9,qg0,if_true,decide_eq_true_eq,e4];by_cases hasc:b.toNat<128
  ·have hd:=decode_ascii s i hi (by rw[hsb];exact hasc);rw[hsb]at hd;simp only[hd];unfold zfX zql;generalize ((b.toNat:Nat):Int)=x;by_cases a1:x≥97<;>by_cases a2:x≤122<;>by_cases a3:x≥65<;>by_cases a4:x≤90<;>by_cases a5:x=95<;>by_cases a6:i=0<;>simp[a1,a2,a3,a4,a5,a6] <;>
    (by_cases a7:x<48<;>by_cases a8:x>57<;>simp[a7,a8])
  ·have hd:=decode_high s i hi (by rw[hsb];omega);generalize Utf8.decode s i=q at hd ⊢;obtain⟨r,wd⟩:=q;have k1:¬((r:Nat):Int)≤122:=by have:=hd.1;dsimp only at this;omega
   have k2:¬((r:Nat):Int)≤90:=by omega
   have k3:¬((r:Nat):Int)=95:=by omega
   have k4:¬((r:Nat):Int)<48:=by omega
   have k5:((r:Nat):Int)>57:=by omega
   rw[zob (by omega),zqk (by omega)];simp[k1,k2,k3,k4,k5]
 have hend:S [.tuple #[.string s,.int .i64 (s.size:Nat)]] H=some (.exit 0,[.tuple #[.string s,.int .i64 (s.size:Nat)]],H):=by
  have e1:za4 (.tuple #[.string s,.int .i64 (s.size:Nat)])=s:=rfl;have e2:za1 (.tuple #[.string s,.int .i64 (s.size:Nat)])=s.size:=by simp[za1]
  have e3:Nat.blt s.size s.size=false:=by
   cases hq:Nat.blt s.size s.size with
   |false=>rfl
   |true=>have:=Nat.le_of_ble_eq_true hq;omega
  rw[←hS];simp only[qd0,qg0,e1,e2,e3];rfl
 have hloop:∀(r:List UInt8) (i:Nat),s.data.toList.drop i=r→i≤s.size→1≤i→zat S [.tuple #[.string s,.int .i64 (i:Nat)]] H=if r.all zkp=true then some (.exit 0,[.tuple #[.string s,.int .i64 (s.size:Nat)]],H) else some (.ret,[.bool false],H):=by
  intro r;induction r with
  |nil=>
   intro i hd hi h1;have:s.data.toList.length≤i:=by simpa using hd
   have:i=s.size:=by omega
   subst this;rw[zak,hend];simp[zjY]
  |cons b r ih=>
   intro i hd hi h1;have hb:s.data.toList[i]?=some b:=by
    have:(s.data.toList.drop i)[0]?=some b:=by rw[hd];rfl
    rw[List.getElem?_drop]at this;simpa using this
   have hl:i<s.data.toList.length:=(List.getElem?_eq_some_iff.1 hb).1;have hd':s.data.toList.drop (i+1)=r:=by rw[←drop_drop,hd];rfl
   have hne:decide (i≠0)=true:=decide_eq_true (by omega);have hok:(zfX (b.toNat:Int)||(decide (i≠0)&&zql (b.toNat:Int)))=zkp b:=by rw[hne];rfl
   rw[zak,hstep i b hb,hok];cases hk:zkp b with
   |true=>
    simp only[if_true,Option.bind_some,zjY];rw[ih (i+1) hd' (by omega) (by omega)];simp[hk]
   |false=>simp[hk,zjY]
 simp only[s_slen,za3,zci,zac,s_br,decide_eq_true_eq];unfold zcB;by_cases h1:(s.size:Int)<1
 ·have:¬s.size≥1:=by omega
  simp[h1,this,zap,zfg]
 by_cases h2:(s.size:Int)>24
 ·have:¬s.size≤24:=by omega
  simp[h1,h2,this,zap,zfg]
 have g1:s.size≥1:=by omega
 have g2:s.size≤24:=by omega
 obtain⟨c,r,hcr⟩:∃c r,s.data.toList=c::r:=by
  cases hq:s.data.toList with
  |nil=>rw[hq]at hlen;simp at hlen;omega
  |cons c r=>exact⟨c,r,rfl⟩
 simp only[h1,h2,if_false,zap,zaN];have h0:s.data.toList[0]?=some c:=by rw[hcr];rfl
 have hd1:s.data.toList.drop 1=r:=by rw[hcr];rfl
 have hlp:=hloop r 1 hd1 g1 (Nat.le_refl _);have hst:=hstep 0 c h0;have hfirst:zat S [.tuple #[.string s,.int .i64 ((0:Nat):Int)]] H=if zfX (c.toNat:Int)=true then (if r.all zkp=true then some (.exit 0,[.tuple #[.string s,.int .i64 (s.size:Nat)]],H) else some (.ret,[.bool false],H)) else some (.ret,[.bool false],H):=by
  rw[zak,hst];cases hc:zfX (c.toNat:Int) with
  |false=>simp[zjY]
  |true=>
   simp only[Bool.true_or,if_true,Option.bind_some,zjY];exact hlp
 show (zau (zat S [.tuple #[.string s,.int .i64 ((0:Nat):Int)]] H) _)=_;rw[hfirst,hd1,hcr];cases hc:zfX (c.toNat:Int) with
 |false=>simp[g1,g2,hc,zap,zfg]
 |true=>
  cases r.all zkp with
  |true=>simp[g1,g2,hc,zap,za6,zay]
  |false=>simp[g1,g2,hc,zap,zfg]
end Go.AM
namespace Go.AM
open Go
def znp(b:Bool)(k:Option Bool):Option Bool:=match some b with|some true=>k|r=>r
theorem eq36c(n m:Nd):eqT PP 10000 Ao n.val m.val =
  znp (n.op==m.op) (znp (n.w==m.w) (znp (n.a==m.a) (znp (n.b==m.b) (znp (n.c==m.c) (znp (n.num==m.num) (znp (n.name==m.name) (some true))))))):=by
 kernel_rfl
def zkq(n m:Nd):Bool:=n.op==m.op&&(n.w==m.w&&(n.a==m.a&&(n.b==m.b&&(n.c==m.c&&(n.num==m.num&&n.name==m.name)))))
theorem eq36(n m:Nd):eqT PP 10000 Ao n.val m.val=some (zkq n m):=by rw[eq36c];unfold zkq;cases n.op==m.op<;>cases n.w==m.w<;>cases n.a==m.a<;>cases n.b==m.b<;>cases n.c==m.c<;>cases n.num==m.num<;>cases n.name==m.name<;>rfl
theorem eq9(s t:ByteArray):eqT PP 10000 Ac (.string s) (.string t)=some (s==t):=by kernel_rfl
theorem shape36(n:Nd):zer PP 20 Ao n.val=true:=by kernel_rfl
theorem zmb(s:ByteArray):zer PP 20 Ac (.string s)=true:=by kernel_rfl
def zeo:Nat→List Nd→List (Value×Value)
 |_,[]=>[]
 |i,n::r=>(n.val,.int .i64 ((i+1:Nat):Int))::zeo (i+1) r
def zbw(n:Nd):Nat→List Nd→Option Nat
 |_,[]=>none
 |i,m::r=>if zkq n m=true then some i else zbw n (i+1) r
theorem find36(n:Nd):∀(L:List Nd) (i j:Nat),zeX PP Ao n.val (zeo i L) j=some ((zbw n i L).map fun q=>(q-i+j,.int .i64 ((q+1:Nat):Int)))
 |[],i,j=>rfl
 |m::r,i,j=>by
  unfold zeo zeX zbw;rw[eq36];cases h:zkq n m with
  |true=>simp
  |false=>
   simp only[Bool.false_eq_true,if_false];rw[find36 n r (i+1) (j+1)];cases hp:zbw n (i+1) r with
   |none=>rfl
   |some q=>
    have:i+1≤q:=by
     have aux:∀(L:List Nd) (i q:Nat),zbw n i L=some q→i≤q:=by
      intro L;induction L with
      |nil=>intro i q h;cases h
      |cons m L ih=>
       intro i q h;unfold zbw at h;split at h
       ·cases h;exact Nat.le_refl _
       ·have:=ih (i+1) q h;omega
     exact aux r (i+1) q hp
    simp;omega
theorem look36{H:Hp}{f:Nat}{L:List Nd}(h:H.get f=some (.map (zeo 0 L)))(n:Nd):lookV PP Ao (.int .i64 0) (.map (some f)) n.val H =
  some (match zbw n 0 L with|some q=>(.int .i64 ((q+1:Nat):Int),true)|none=>(.int .i64 0,false)):=by
 unfold lookV;rw[shape36];simp only[if_true,zn4,h,find36];cases zbw n 0 L<;>rfl
end Go.AM
namespace Go.AM
open List Go
theorem zg8(s t:ByteArray):(s==t)=true↔s=t:=by obtain⟨a⟩:=s;obtain⟨b⟩:=t;show (a==b)=true↔_;simp
theorem zkP(n:Nd):∀(L:List Nd) (i:Nat),zeo i (L++[n])=zeo i L++[(n.val,.int .i64 ((i+L.length+1:Nat):Int))]
 |[],i=>rfl
 |m::r,i=>by show (m.val,_)::zeo (i+1) (r++[n])=_;rw[zkP n r (i+1)];simp only[zeo,cons_append,length_cons];rw[show i+1+r.length+1=i+(r.length+1)+1 by omega]
theorem upd36{H:Hp}{f:Nat}{L:List Nd}(h:H.get f=some (.map (zeo 0 L)))(n:Nd)(hn:zbw n 0 L=none) :
  updV PP Ao (.map (some f)) n.val (.int .i64 ((L.length+1:Nat):Int)) H=some (H.set f (some (.map (zeo 0 (L++[n]))))):=by
 unfold updV;rw[shape36];simp only[if_true,h,find36,hn,Option.map_none];rw[zkP,Nat.zero_add]
def zef(K:List (ByteArray×Int)):List (Value×Value):=K.map fun x=>(.string x.1,.int .i64 x.2)
def za0(s:ByteArray):Nat→List (ByteArray×Int)→Option (Nat×Int)
 |_,[]=>none
 |i,(t,w)::r=>if (s==t)=true then some (i,w) else za0 s (i+1) r
theorem find9(s:ByteArray):∀(K:List (ByteArray×Int)) (i:Nat),zeX PP Ac (.string s) (zef K) i=some ((za0 s i K).map fun q=>(q.1,.int .i64 q.2))
 |[],i=>rfl
 |(t,w)::r,i=>by
  show (match eqT PP 10000 Ac (.string s) (.string t) with|some true=>some (some (i,Value.int .i64 w))|some false=>zeX PP Ac (.string s) (zef r) (i+1)|none=>none)=_;rw[eq9];unfold za0;cases h:s==t with
  |true=>simp
  |false=>
   simp only[Bool.false_eq_true,if_false];exact find9 s r (i+1)
theorem look9{H:Hp}{g:Nat}{K:List (ByteArray×Int)}(h:H.get g=some (.map (zef K)))(s:ByteArray):lookV PP Ac (.int .i64 0) (.map (some g)) (.string s) H =
  some (match za0 s 0 K with|some q=>(.int .i64 q.2,true)|none=>(.int .i64 0,false)):=by
 unfold lookV;rw[zmb];simp only[if_true,zn4,h,find9];cases za0 s 0 K<;>rfl
theorem zky(s:ByteArray):∀(K:List (ByteArray×Int)) (i j:Nat) (w:Int),za0 s i K=some (j,w)→i≤j∧K[j-i]?=some (s,w)
 |[],i,j,w,h=>by cases h
 |(t,u)::r,i,j,w,h=>by
  unfold za0 at h;split at h
  ·rename_i e;cases h;have:s=t:=(zg8 s t).1 e;subst this;exact⟨Nat.le_refl _,by simp⟩
  ·obtain⟨h1,h2⟩:=zky s r (i+1) j w h;refine⟨by omega,?_⟩;rw[show j-i=(j-(i+1))+1 by omega];simpa using h2
def zbx(s:ByteArray)(w:Int)(K:List (ByteArray×Int)):List (ByteArray×Int):=match za0 s 0 K with|some _=>K|none=>K++[(s,w)]
theorem upd9{H:Hp}{g:Nat}{K:List (ByteArray×Int)}(h:H.get g=some (.map (zef K)))(s:ByteArray)(w:Int)(hw:∀j u,za0 s 0 K=some (j,u)→u=w) :
  updV PP Ac (.map (some g)) (.string s) (.int .i64 w) H=some (H.set g (some (.map (zef (zbx s w K))))):=by
 unfold updV zbx;rw[zmb];simp only[if_true,h,find9];cases hq:za0 s 0 K with
 |none=>simp[zef]
 |some q=>
  obtain⟨j,u⟩:=q;have hu:=hw j u hq;subst hu;obtain⟨_,h2⟩:=zky s K 0 j u hq;rw[Nat.sub_zero]at h2;have hk:(zef K)[j]?=some (.string s,.int .i64 u):=by unfold zef;rw[List.getElem?_map,h2];rfl
  have hset:zhZ (zef K) j (.string s) (.int .i64 u)=zef K:=by
   unfold zhZ;apply ext_getElem?;intro i;rw[List.getElem?_set];split
   ·rename_i e;subst e;rw[if_pos (List.getElem?_eq_some_iff.1 hk).1,hk]
   ·rfl
  have hsb:Instr.sameBits 10000 (.string s) (.string s)=true:=by simp only[Instr.sameBits];exact(zg8 s s).2 rfl
  simp only[Option.map_some,hk,hsb,if_true,hset]
def slId:Value→Option Nat
 |.slice (some a) _ _=>some a.block
 |_=>none
theorem zgY(H:Hp)(o:AObj)(i:Nat):(H.new o).get i=if i=H.next then some o else H.get i:=rfl
theorem zog(H:Hp)(j:Nat)(o:Option AObj)(i:Nat):(H.set j o).get i=if i=j then o else H.get i:=rfl
theorem zmV(H:Hp)(j:Nat)(o:Option AObj):(H.set j o).next=H.next:=rfl
theorem zjB(n:Nd):n.cells.all one=true:=rfl
theorem zor{H:Hp}{sl:Value}{L:List Nd}(hsl:SlR H sl L){y:Nat}{own:Bool}{n:Nd}(hy:H.get y=some (.cells n.cells own))(hlt:∀i,slId sl=some i→i<H.next)(hb:(L.length+1)*64≤2^47) :
  ∃sl' H',zbE 7 64 sl (.slice (some ⟨y,0,some 7⟩) 1 1) H=some (sl',H')∧SlR H' sl' (L++[n])∧slId sl'=some H.next∧H'.next=H.next+1 ∧
   ∀j,j<H.next→slId sl≠some j→H'.get j=H.get j:=by
 have hsrc:zbK 7 (.slice (some ⟨y,0,some 7⟩) 1 1) H=some (1,n.cells):=by simp[zbK,hy,Nd.cells]
 rcases hsl with⟨rfl,rfl⟩|⟨i,rfl,hi⟩
 ·refine⟨.slice (some ⟨H.next,0,some 7⟩) 1 1,H.new (.cells n.cells true),?_,.inr ⟨H.next,rfl,?_⟩,rfl,rfl,fun j hj _=>?_⟩
  ·unfold zbE;rw[hsrc];simp[zjB]
  ·rw[zgY,if_pos rfl];simp
  ·rw[zgY,if_neg (by omega)]
 ·refine⟨.slice (some ⟨H.next,0,some 7⟩) (L.length+1) (L.length+1),(H.set i none).new (.cells (L.flatMap Nd.cells++n.cells) true),?_,.inr ⟨H.next,by simp,?_⟩,rfl,rfl,fun j hj hne=>?_⟩
  ·unfold zbE;rw[hsrc];have h1:¬L.length+1≤L.length:=by omega
   have h2:(L.flatMap Nd.cells).take (L.length*7)=L.flatMap Nd.cells:=take_of_length_le (by rw[flat_len];omega);have h3:0+L.length*7≤(L.flatMap Nd.cells).length:=by rw[flat_len];omega
   simp only[ne_eq,not_true_eq_false,if_false,hi,h1,Nat.one_ne_zero,false_and,h3,hb,zjB,and_self,if_true,qd0,h2]
  ·rw[zgY,if_pos (zmV _ _ _).symm];simp[flatMap_append]
  ·have:j≠i:=fun e=>hne (by rw[e];rfl);rw[zgY,zmV,if_neg (by omega),zog,if_neg this]
end Go.AM
namespace Go.AM
open Go
noncomputable def tailM(p:Nat)(n:Nd)(H:Hp):Option (Value×Hp):=
 (pNil (.pointer (some ⟨p,0,none⟩)) (
 zas 1 (.pointer (some ⟨p,0,none⟩)) fun p124=>
 zal 1 false H p124 fun v125=>
 zai 7 true (zab n.val) 0 fun v126=>
 zam 7 [.int .i64 0,.int .i64 0,.int .i64 0,.int .i64 0,.int .i64 0,.int .u64 0,.string ⟨#[]⟩] 1 [(0,v126)] H fun v127 H128=>
 chk (Hp.rdP H128 p124 1 false=some v125) (
 zaJ 7 64 v125 v127 H128 fun v129 H130=>
 pNil (.pointer (some ⟨p,0,none⟩)) (
 zas 1 (.pointer (some ⟨p,0,none⟩)) fun p131=>
 zao 1 H130 p131 v129 fun H132=>
 pNil (.pointer (some ⟨p,0,none⟩)) (
 zas 2 (.pointer (some ⟨p,0,none⟩)) fun p133=>
 zal 1 false H132 p133 fun v134=>
 zai 7 true (zab n.val) 0 fun v135=>
 pNil (.pointer (some ⟨p,0,none⟩)) (
 zas 1 (.pointer (some ⟨p,0,none⟩)) fun p136=>
 zal 1 false H132 p136 fun v137=>
 pLen .sl v137 H132 fun v138=>
 pUpd PP Ao v134 v135 v138 H132 fun H139=>
 zai 1 false (zab n.val) 0 fun v140=>
 pBin PP .eql Aa v140 (.int .i64 4) fun v141=>
 zaa v141 fun b142=>br b142
 (pNil (.pointer (some ⟨p,0,none⟩)) (
 zas 3 (.pointer (some ⟨p,0,none⟩)) fun p143=>
 zal 1 false H139 p143 fun v144=>
 zai 1 false (zab n.val) 6 fun v145=>
 zai 1 false (zab n.val) 1 fun v146=>
 pUpd PP Ac v144 v145 v146 H139 fun H147=>
 pNil (.pointer (some ⟨p,0,none⟩)) (
 zas 1 (.pointer (some ⟨p,0,none⟩)) fun p148=>
 zal 1 false H147 p148 fun v149=>
 pLen .sl v149 H147 fun v150=>
 some ((.tuple #[v150,(.int .i64 0)]),H147))))
 (pNil (.pointer (some ⟨p,0,none⟩)) (
 zas 1 (.pointer (some ⟨p,0,none⟩)) fun p151=>
 zal 1 false H139 p151 fun v152=>
 pLen .sl v152 H139 fun v153=>
 some ((.tuple #[v153,(.int .i64 0)]),H139)))))))))
theorem zkX(n:Nd)(H:Hp){α:Type}(k:Value→Hp→Option α) :
  zam 7 [.int .i64 0,.int .i64 0,.int .i64 0,.int .i64 0,.int .i64 0,.int .u64 0,.string ⟨#[]⟩] 1 [(0,n.val)] H k=k (.slice (some ⟨H.next,0,some 7⟩) 1 1) (H.new (.cells n.cells true)):=by
 have:zb0 7 [.int .i64 0,.int .i64 0,.int .i64 0,.int .i64 0,.int .i64 0,.int .u64 0,.string ⟨#[]⟩] 1 [(0,n.val)] H=some (.slice (some ⟨H.next,0,some 7⟩) 1 1,H.new (.cells n.cells true)):=by have h1:zab n.val=n.cells:=rfl;have h2:n.cells.length=7:=rfl;simp[zb0,repl,zjr,h1,h2,zjB,spl]
 unfold zam;rw[this]
theorem zf6{α:Type}{q:Prop}(h:q)(k:Option α):chk q k=k:=by unfold chk;exact if_pos h
structure StF(H:Hp)(p:Nat)(lim:Int)(L:List Nd)(K:List (ByteArray×Int))(sl:Value)(f g:Nat):Prop where
 st:StR H p lim L sl f g
 fm:H.get f=some (.map (zeo 0 L))
 gm:H.get g=some (.map (zef K))
 pf:p≠f
 pg:p≠g
 fg:f≠g
 lp:p<H.next
 lf:f<H.next
 lg:g<H.next
 sa:∀i,slId sl=some i→i≠p∧i≠f∧i≠g∧i<H.next
theorem store1{α:Type}{H:Hp}{p f g:Nat}{lim:Int}{sl:Value}(hs:H.get p=some (.cells [.int .i64 lim,sl,.map (some f),.map (some g)] true))(v:Value)(hv:zab v=[v])(h1:one v=true)(k:Hp→Option α) :
  zao 1 H (.pointer (some ⟨p,1,none⟩)) v k=k (H.set p (some (.cells [.int .i64 lim,v,.map (some f),.map (some g)] true))):=by
 have:H.wr (.pointer (some ⟨p,1,none⟩)) 1 v=some (H.set p (some (.cells [.int .i64 lim,v,.map (some f),.map (some g)] true))):=by simp[Hp.wr,hs,za8,hv,h1,spl]
 unfold zao;rw[this]
theorem zoP{α:Type}{n m:Nat}{s x:Value}{H:Hp}{v:Value}{H':Hp}(h:zbE n m s x H=some (v,H'))(k:Value→Hp→Option α):zaJ n m s x H k=k v H':=by unfold zaJ;rw[h]
theorem s_upd{α:Type}{P:Program}{kt:TypeId}{m key v:Value}{H H':Hp}(h:updV P kt m key v H=some H')(k:Hp→Option α):pUpd P kt m key v H k=k H':=by unfold pUpd;rw[h]
theorem tail_ok{H:Hp}{p f g:Nat}{lim:Int}{L:List Nd}{K:List (ByteArray×Int)}{sl:Value}(h:StF H p lim L K sl f g)(n:Nd)(hn:zbw n 0 L=none)(hw:n.op=4→∀j u,za0 n.name 0 K=some (j,u)→u=n.w)(hb:(L.length+1)*64≤2^47) :
  ∃H' sl',tailM p n H=some (.tuple #[.int .i64 ((L.length+1:Nat):Int),.int .i64 0],H')∧StF H' p lim (L++[n]) (if n.op=4 then zbx n.name n.w K else K) sl' f g∧H.next≤H'.next ∧
   (∀j,j<H.next→j≠p→j≠f→j≠g→slId sl≠some j→H'.get j=H.get j)∧(∀i,slId sl'=some i→H.next≤i):=by
 have hlp:=h.lp;have hlf:=h.lf;have hlg:=h.lg;have hH1:∀j,j<H.next→(H.new (.cells n.cells true)).get j=H.get j:=fun j hj=>by rw[zgY,if_neg (by omega)]
 have hsl1:SlR (H.new (.cells n.cells true)) sl L:=by
  rcases h.st.all with⟨e1,e2⟩|⟨i,e1,e2⟩
  ·exact .inl ⟨e1,e2⟩
  ·have:=(h.sa i (by rw[e1];rfl)).2.2.2;exact .inr ⟨i,e1,by rw[hH1 i this];exact e2⟩
 obtain⟨sl',H2,ha,hsl2,hid,hnx,hfr⟩:=zor hsl1 (y:=H.next) (own:=true) (n:=n) (by rw[zgY,if_pos rfl]) (fun i hi=>by have:=(h.sa i hi).2.2.2;show i<H.next+1;omega) hb;have hnx1:(H.new (.cells n.cells true)).next=H.next+1:=rfl;rw[hnx1]at hid hnx hfr;have hg2:∀j,j<H.next→slId sl≠some j→H2.get j=H.get j:=fun j hj hne=>by rw[hfr j (by omega) hne,hH1 j hj]
 have sp:slId sl≠some p:=fun e=>(h.sa p e).1 rfl;have sf:slId sl≠some f:=fun e=>(h.sa f e).2.1 rfl;have sg:slId sl≠some g:=fun e=>(h.sa g e).2.2.1 rfl;have hsl':∃c,sl'=.slice (some ⟨H.next+1,0,some 7⟩) (L++[n]).length c:=by
  rcases hsl2 with⟨e1,_⟩|⟨i,e1,_⟩
  ·simp at e1
  ·rw[e1]at hid;have:i=H.next+1:=by simpa[slId] using hid
   subst this;exact⟨_,e1⟩
 obtain⟨c,hslc⟩:=hsl';have hobj2:H2.get p=some (.cells [.int .i64 lim,sl,.map (some f),.map (some g)] true):=by rw[hg2 p hlp sp];exact h.st.obj
 have hcl:zab sl'=[sl']:=by rw[hslc];rfl
 have hone:one sl'=true:=by rw[hslc];rfl
 generalize hH3:H2.set p (some (.cells [.int .i64 lim,sl',.map (some f),.map (some g)] true))=H3;have g3:∀j,j≠p→H3.get j=H2.get j:=fun j hj=>by rw[←hH3,zog,if_neg hj]
 have obj3:H3.get p=some (.cells [.int .i64 lim,sl',.map (some f),.map (some g)] true):=by rw[←hH3,zog,if_pos rfl]
 have n3:H3.next=H.next+2:=by rw[←hH3,zmV,hnx]
 have hsl3:SlR H3 sl' (L++[n]):=by
  rcases hsl2 with⟨e1,_⟩|⟨i,e1,e2⟩
  ·simp at e1
  ·have:i=H.next+1:=by rw[e1]at hid;simpa[slId] using hid
   exact .inr ⟨i,e1,by rw[g3 i (by omega)];exact e2⟩
 have hf3:H3.get f=some (.map (zeo 0 L)):=by rw[g3 f (Ne.symm h.pf),hg2 f hlf sf];exact h.fm
 have hg3:H3.get g=some (.map (zef K)):=by rw[g3 g (Ne.symm h.pg),hg2 g hlg sg];exact h.gm
 have st3:StR H3 p lim (L++[n]) sl' f g:=⟨obj3,hsl3⟩
 have hu:=upd36 hf3 n hn;generalize hH4:H3.set f (some (.map (zeo 0 (L++[n]))))=H4 at hu;have g4:∀j,j≠f→H4.get j=H3.get j:=fun j hj=>by rw[←hH4,zog,if_neg hj]
 have n4:H4.next=H.next+2:=by rw[←hH4,zmV,n3]
 have obj4:H4.get p=some (.cells [.int .i64 lim,sl',.map (some f),.map (some g)] true):=by rw[g4 p h.pf];exact obj3
 have hf4:H4.get f=some (.map (zeo 0 (L++[n]))):=by rw[←hH4,zog,if_pos rfl]
 have hg4:H4.get g=some (.map (zef K)):=by rw[g4 g (Ne.symm h.fg)];exact hg3
 have hslk:∀{Hx:Hp},(∀j,j≠p→j≠f→j≠g→Hx.get j=H3.get j)→SlR Hx sl' (L++[n]):=fun hx=>by
  rcases hsl3 with⟨e1,_⟩|⟨i,e1,e2⟩
  ·simp at e1
  ·have:i=H.next+1:=by rw[e1]at hid;simpa[slId] using hid
   exact .inr ⟨i,e1,by rw[hx i (by omega) (by omega) (by omega)];exact e2⟩
 have st4:StR H4 p lim (L++[n]) sl' f g:=⟨obj4,hslk fun j _ hf _=>g4 j hf⟩
 have hlen:((L++[n]).length:Int)=((L.length+1:Nat):Int):=by simp
 have hapart:∀i,slId sl'=some i→i≠p∧i≠f∧i≠g∧i<H.next+2:=fun i hi=>by rw[hid]at hi;cases hi;exact⟨by omega,by omega,by omega,by omega⟩
 have hframe4:∀j,j<H.next→j≠p→j≠f→j≠g→slId sl≠some j→H4.get j=H.get j:=fun j a b c d e=>by rw[g4 j c,g3 j b,hg2 j a e]
 have hge:∀i,slId sl'=some i→H.next≤i:=fun i hi=>by rw[hid]at hi;cases hi;omega
 have hchk:Hp.rdP (H.new (.cells n.cells true)) (.pointer (some ⟨p,1,none⟩)) 1 false=some sl:=by simp[Hp.rdP,Hp.rd,hH1 p hlp,h.st.obj,zct]
 by_cases hop:n.op=4
 ·have hu9:=upd9 hg4 n.name n.w (hw hop);generalize hH5:H4.set g (some (.map (zef (zbx n.name n.w K))))=H5 at hu9;have g5:∀j,j≠g→H5.get j=H4.get j:=fun j hj=>by rw[←hH5,zog,if_neg hj]
  have n5:H5.next=H.next+2:=by rw[←hH5,zmV,n4]
  have obj5:H5.get p=some (.cells [.int .i64 lim,sl',.map (some f),.map (some g)] true):=by rw[g5 p h.pg];exact obj4
  have st5:StR H5 p lim (L++[n]) sl' f g:=⟨obj5,hslk fun j _ hf hg=>by rw[g5 j hg,g4 j hf]⟩
  refine⟨H5,sl',?_,⟨st5,?_,?_,h.pf,h.pg,h.fg,by omega,by omega,by omega,by rw[n5];exact hapart⟩,by omega,fun j a b c d e=>?_,hge⟩
  ·unfold tailM;simp only[zbg,zaI,Nat.zero_add,h.st.l1,n07,zkX];rw[zf6 hchk,zoP ha,store1 hobj2 sl' hcl hone,hH3];simp only[st3.l1,st3.l2,hsl3.len,hlen];rw[s_upd hu];simp only[n0,n1,n6,zaO,hop,decide_true,zac,s_br,if_true,st4.l3];rw[s_upd hu9];simp only[st5.l1,st5.all.len,hlen]
  ·rw[g5 f h.fg];exact hf4
  ·rw[if_pos hop,←hH5,zog,if_pos rfl]
  ·rw[g5 j d];exact hframe4 j a b c d e
 ·refine⟨H4,sl',?_,⟨st4,hf4,?_,h.pf,h.pg,h.fg,by omega,by omega,by omega,by rw[n4];exact hapart⟩,by omega,hframe4,hge⟩
  ·unfold tailM;simp only[zbg,zaI,Nat.zero_add,h.st.l1,n07,zkX];rw[zf6 hchk,zoP ha,store1 hobj2 sl' hcl hone,hH3];simp only[st3.l1,st3.l2,hsl3.len,hlen];rw[s_upd hu];simp only[n0,zaO,hop,decide_false,zac,s_br,Bool.false_eq_true,if_false,st4.l1,st4.all.len,hlen]
  ·rw[if_neg hop];exact hg4
end Go.AM
namespace Go.AM
open List Go
def zbQ(L:List Nd)(n:Nd):Bool:=(decide (zah n.op≥1)&&!isT L n.a)||(decide (zah n.op≥2)&&!isT L n.b)||(decide (zah n.op≥3)&&!isT L n.c)
def zbl(K:List (ByteArray×Int))(n:Nd):Bool:=!zcB n.name||(match za0 n.name 0 K with|some q=>decide (q.2≠n.w)|none=>false)
def zc9(L:List Nd)(K:List (ByteArray×Int))(n:Nd):Int:=
 if n.op<1∨n.op>33 then 73 else if n.w<0∨n.w>64 then 5 else if zbQ L n=true then 70 else if zex (zah n.op) n=true then 1
 else if zbC n.op (wT L (-1) n.a) (wT L (-1) n.b) (wT L (-1) n.c)=false then 71 else if zbB n (wT L (-1) n.a) (wT L (-1) n.b)=false then 5
 else if n.op=4∧zbl K n=true then 72 else 0
def mkR(lim:Int)(L:List Nd)(K:List (ByteArray×Int))(n:Nd):Int×Int×List Nd×List (ByteArray×Int):=
 if zc9 L K n≠0 then (0,zc9 L K n,L,K) else match zbw n 0 L with
  |some q=>(((q+1:Nat):Int),0,L,K)
  |none=>if lim>0∧(L.length:Int)≥lim then (0,4,L,K) else (((L.length+1:Nat):Int),0,L++[n],if n.op=4 then zbx n.name n.w K else K)
theorem wT_bd{L:List Nd}(h:∀m∈L,0≤m.w∧m.w≤64)(t:Int):-1≤wT L (-1) t∧wT L (-1) t≤64:=by
 unfold wT;split
 ·cases hq:L[(t-1).toNat]? with
  |none=>simp
  |some m=>
   have:=h m (mem_of_getElem? hq);simp;omega
 ·omega
end Go.AM
namespace Go.AM
open Go
theorem ziD{α:Type}{P:Program}{kt:TypeId}{z m key v:Value}{b:Bool}{H:Hp}(h:lookV P kt z m key H=some (v,b))(k:Value→Option α):zbj P kt z m key true H k=k (.tuple #[v,.bool b]):=by unfold zbj;rw[h]
theorem s_ext0{α:Type}(x y:Value)(k:Value→Option α):zaf (.tuple #[x,y]) 0 k=k x:=rfl
theorem s_ext1{α:Type}(x y:Value)(k:Value→Option α):zaf (.tuple #[x,y]) 1 k=k y:=rfl
noncomputable def znB(p:Nat)(n:Nd)(H:Hp):Option (Value×Hp):=
 pNil (.pointer (some ⟨p,0,none⟩)) (
 zas 2 (.pointer (some ⟨p,0,none⟩)) fun p102=>
 zal 1 false H p102 fun v103=>
 zai 7 true (zab n.val) 0 fun v104=>
 zbj PP Ao (.int .i64 0) v103 v104 true H fun v105=>
 zaf v105 0 fun v106=>
 zaf v105 1 fun v107=>
 zaa v107 fun b108=>br b108
 (some ((.tuple #[v106,(.int .i64 0)]),H))
 (zau (
 pNil (.pointer (some ⟨p,0,none⟩)) (
 zas 0 (.pointer (some ⟨p,0,none⟩)) fun p109=>
 zal 1 false H p109 fun v110=>
 pBin PP .gtr Aa v110 (.int .i64 0) fun v111=>
 zaa v111 fun b112=>br b112
 (pNil (.pointer (some ⟨p,0,none⟩)) (
 zas 1 (.pointer (some ⟨p,0,none⟩)) fun p113=>
 zal 1 false H p113 fun v114=>
 pLen .sl v114 H fun v115=>
 pNil (.pointer (some ⟨p,0,none⟩)) (
 zas 0 (.pointer (some ⟨p,0,none⟩)) fun p116=>
 zal 1 false H p116 fun v117=>
 pBin PP .geq Aa v115 v117 fun v118=>
 zaa v118 fun b119=>br b119
 (some (.ret,[(.tuple #[(.int .i64 0),(.int .i64 4)])],H))
 (some (.next,[],H)))))
 (some (.next,[],H)))) fun q120 l121 H122=>zaC q120
 (pNil (.pointer (some ⟨p,0,none⟩)) (
 zas 1 (.pointer (some ⟨p,0,none⟩)) fun p124=>
 zal 1 false H122 p124 fun v125=>
 zai 7 true (zab n.val) 0 fun v126=>
 zam 7 [.int .i64 0,.int .i64 0,.int .i64 0,.int .i64 0,.int .i64 0,.int .u64 0,.string ⟨#[]⟩] 1 [(0,v126)] H122 fun v127 H128=>
 chk (Hp.rdP H128 p124 1 false=some v125) (
 zaJ 7 64 v125 v127 H128 fun v129 H130=>
 pNil (.pointer (some ⟨p,0,none⟩)) (
 zas 1 (.pointer (some ⟨p,0,none⟩)) fun p131=>
 zao 1 H130 p131 v129 fun H132=>
 pNil (.pointer (some ⟨p,0,none⟩)) (
 zas 2 (.pointer (some ⟨p,0,none⟩)) fun p133=>
 zal 1 false H132 p133 fun v134=>
 zai 7 true (zab n.val) 0 fun v135=>
 pNil (.pointer (some ⟨p,0,none⟩)) (
 zas 1 (.pointer (some ⟨p,0,none⟩)) fun p136=>
 zal 1 false H132 p136 fun v137=>
 pLen .sl v137 H132 fun v138=>
 pUpd PP Ao v134 v135 v138 H132 fun H139=>
 zai 1 false (zab n.val) 0 fun v140=>
 pBin PP .eql Aa v140 (.int .i64 4) fun v141=>
 zaa v141 fun b142=>br b142
 (pNil (.pointer (some ⟨p,0,none⟩)) (
 zas 3 (.pointer (some ⟨p,0,none⟩)) fun p143=>
 zal 1 false H139 p143 fun v144=>
 zai 1 false (zab n.val) 6 fun v145=>
 zai 1 false (zab n.val) 1 fun v146=>
 pUpd PP Ac v144 v145 v146 H139 fun H147=>
 pNil (.pointer (some ⟨p,0,none⟩)) (
 zas 1 (.pointer (some ⟨p,0,none⟩)) fun p148=>
 zal 1 false H147 p148 fun v149=>
 pLen .sl v149 H147 fun v150=>
 some ((.tuple #[v150,(.int .i64 0)]),H147))))
 (pNil (.pointer (some ⟨p,0,none⟩)) (
 zas 1 (.pointer (some ⟨p,0,none⟩)) fun p151=>
 zal 1 false H139 p151 fun v152=>
 pLen .sl v152 H139 fun v153=>
 some ((.tuple #[v153,(.int .i64 0)]),H139)))))))))
 (fun i123=>none)
 (some ((l121.headD undef),H122))))
def okR(lim:Int)(L:List Nd)(K:List (ByteArray×Int))(n:Nd):Int×Int×List Nd×List (ByteArray×Int):=
 match zbw n 0 L with
  |some q=>(((q+1:Nat):Int),0,L,K)
  |none=>if lim>0∧(L.length:Int)≥lim then (0,4,L,K) else (((L.length+1:Nat):Int),0,L++[n],if n.op=4 then zbx n.name n.w K else K)
structure MkOk(H:Hp)(p:Nat)(lim:Int)(sl:Value)(f g:Nat)(r:Int×Int×List Nd×List (ByteArray×Int))(H':Hp)(sl':Value):Prop where
 st:StF H' p lim r.2.2.1 r.2.2.2 sl' f g
 next:H.next≤H'.next
 frame:∀j,j<H.next→j≠p→j≠f→j≠g→slId sl≠some j→H'.get j=H.get j
 own:∀i,slId sl'=some i→slId sl=some i∨H.next≤i
theorem MkOk.stay{H:Hp}{p f g:Nat}{lim:Int}{L:List Nd}{K:List (ByteArray×Int)}{sl:Value}(h:StF H p lim L K sl f g){r:Int×Int×List Nd×List (ByteArray×Int)}(hr:r.2.2=(L,K)):MkOk H p lim sl f g r H sl:=
 ⟨by rw[hr];exact h,Nat.le_refl _,fun _ _ _ _ _ _=>rfl,fun i hi=>.inl hi⟩
theorem rest_ok{H:Hp}{p f g:Nat}{lim:Int}{L:List Nd}{K:List (ByteArray×Int)}{sl:Value}(h:StF H p lim L K sl f g)(n:Nd)(hw:n.op=4→∀j u,za0 n.name 0 K=some (j,u)→u=n.w)(hb:(L.length+1)*64≤2^47) :
  ∃H' sl',znB p n H=some (.tuple #[.int .i64 (okR lim L K n).1,.int .i64 (okR lim L K n).2.1],H')∧MkOk H p lim sl f g (okR lim L K n) H' sl':=by
 have hl36:=look36 h.fm n;unfold okR;cases hq:zbw n 0 L with
 |some q=>
  rw[hq]at hl36;refine⟨H,sl,?_,MkOk.stay h rfl⟩;unfold znB;simp only[zbg,zaI,Nat.zero_add,h.st.l2,n07,ziD hl36,x01,zac,s_br,if_true]
 |none=>
  rw[hq]at hl36;by_cases hlim:lim>0∧(L.length:Int)≥lim
  ·refine⟨H,sl,?_,MkOk.stay h (by simp only[if_pos hlim])⟩;unfold znB;simp only[zbg,zaI,Nat.zero_add,Nat.add_zero,h.st.l0,h.st.l1,h.st.l2,h.st.all.len,n07,ziD hl36,x01,zac,s_br,zci,zcQ,hlim.1,hlim.2,decide_true,Bool.false_eq_true,if_false,if_true,zap,zfg,zfQ,if_pos hlim,and_self]
  ·obtain⟨H',sl',h1,h2,h3,h4,h5⟩:=tail_ok h n hq hw hb;rw[if_neg hlim];refine⟨H',sl',?_,⟨h2,h3,h4,fun i hi=>.inr (h5 i hi)⟩⟩;rw[←h1];unfold znB;by_cases l1:lim>0
   ·have l2:¬((L.length:Int)≥lim):=fun q=>hlim ⟨l1,q⟩;simp only[zbg,zaI,Nat.zero_add,Nat.add_zero,h.st.l0,h.st.l1,h.st.l2,h.st.all.len,n07,ziD hl36,x01,zac,s_br,zci,zcQ,l1,l2,decide_true,decide_false,Bool.false_eq_true,if_false,if_true,zap,zaN,zfQ];unfold tailM;simp only[zbg,zaI,Nat.zero_add,Nat.add_zero,h.st.l0,h.st.l1,h.st.l2,h.st.all.len,n07,s_br]
   ·simp only[zbg,zaI,Nat.zero_add,Nat.add_zero,h.st.l0,h.st.l1,h.st.l2,h.st.all.len,n07,ziD hl36,x01,zac,s_br,zci,zcQ,l1,decide_true,decide_false,Bool.false_eq_true,if_false,if_true,zap,zaN,zfQ];unfold tailM;simp only[zbg,zaI,Nat.zero_add,Nat.add_zero,h.st.l0,h.st.l1,h.st.l2,h.st.all.len,n07,s_br]
end Go.AM
