/-
  The contracts one upon another, as far as they reach no function that is walked by hand. No condition.
-/
import Derived.Test.YtecjedagdpnemaaGreatDoorF
namespace Go.Proofs.YtecjedagdpnemaaGreatDoor
open Go Go.Nu
theorem k153 : TEnt.Ok Tryz.prog GT ent153 := ok153 keepsGT 
theorem k139 : TEnt.Ok Tryz.prog GT ent139 := ok139 keepsGT k153 okTZ
theorem k121 : TEnt.Ok Tryz.prog GT ent121 := ok121 keepsGT k139
theorem k104 : TEnt.Ok Tryz.prog GT ent104 := ok104 keepsGT k121
theorem k90 : TEnt.Ok Tryz.prog GT ent90 := ok90 keepsGT k104 okRepeat
theorem k73 : TEnt.Ok Tryz.prog GT ent73 := ok73 keepsGT k90
theorem k71 : TEnt.Ok Tryz.prog GT ent71 := ok71 keepsGT 
theorem k118 : TEnt.Ok Tryz.prog GT ent118 := ok118 keepsGT k90
theorem k82 : TEnt.Ok Tryz.prog GT ent82 := ok82 keepsGT okTrim
theorem k96 : TEnt.Ok Tryz.prog GT ent96 := ok96 keepsGT k90
theorem k97 : TEnt.Ok Tryz.prog GT ent97 := ok97 keepsGT k118
theorem k78 : TEnt.Ok Tryz.prog GT ent78 := ok78 keepsGT k73 k96 k97
theorem k76 : TEnt.Ok Tryz.prog GT ent76 := ok76 keepsGT okTrim okSplit
theorem k38 : TEnt.Ok Tryz.prog GT ent38 := ok38 keepsGT k76
theorem k40 : TEnt.Ok Tryz.prog GT ent40 := ok40 keepsGT k73 k78
theorem k36 : TEnt.Ok Tryz.prog GT ent36 := ok36 keepsGT 
theorem k37 : TEnt.Ok Tryz.prog GT ent37 := ok37 keepsGT 
theorem k77 : TEnt.Ok Tryz.prog GT ent77 := ok77 keepsGT 
theorem k39 : TEnt.Ok Tryz.prog GT ent39 := ok39 keepsGT k77
theorem k93 : TEnt.Ok Tryz.prog GT ent93 := ok93 keepsGT 
theorem k75 : TEnt.Ok Tryz.prog GT ent75 := ok75 keepsGT k93
theorem k35 : TEnt.Ok Tryz.prog GT ent35 := ok35 keepsGT k71 k75
theorem k34 : TEnt.Ok Tryz.prog GT ent34 := ok34 keepsGT k35
theorem k11 : TEnt.Ok Tryz.prog GT ent11 := ok11 keepsGT 
theorem k16 : TEnt.Ok Tryz.prog GT ent16 := ok16 keepsGT k11
theorem k74 : TEnt.Ok Tryz.prog GT ent74 := ok74 keepsGT okJoin okItoa
theorem k33 : TEnt.Ok Tryz.prog GT ent33 := ok33 keepsGT k73 k74
theorem k48 : TEnt.Ok Tryz.prog GT ent48 := ok48 keepsGT k36 k37 k38 k82
theorem k49 : TEnt.Ok Tryz.prog GT ent49 := ok49 keepsGT k37 k82
theorem k50 : TEnt.Ok Tryz.prog GT ent50 := ok50 keepsGT 
theorem k15 : TEnt.Ok Tryz.prog GT ent15 := ok15 keepsGT k33 k36 k39 k48 k49 k50
theorem k21 : TEnt.Ok Tryz.prog GT ent21 := ok21 keepsGT 
theorem k51 : TEnt.Ok Tryz.prog GT ent51 := ok51 keepsGT k37
theorem k57 : TEnt.Ok Tryz.prog GT ent57 := ok57 keepsGT k40
theorem k56 : TEnt.Ok Tryz.prog GT ent56 := ok56 keepsGT k57
theorem k83 : TEnt.Ok Tryz.prog GT ent83 := ok83 keepsGT k56
theorem k55 : TEnt.Ok Tryz.prog GT ent55 := ok55 keepsGT k83
theorem k20 : TEnt.Ok Tryz.prog GT ent20 := ok20 keepsGT k55
theorem k101 : TEnt.Ok Tryz.prog GT ent101 := ok101 keepsGT 
theorem k100 : TEnt.Ok Tryz.prog GT ent100 := ok100 keepsGT k101
theorem k84 : TEnt.Ok Tryz.prog GT ent84 := ok84 keepsGT k100
theorem k60 : TEnt.Ok Tryz.prog GT ent60 := ok60 keepsGT k84
theorem k85 : TEnt.Ok Tryz.prog GT ent85 := ok85 keepsGT 
theorem k61 : TEnt.Ok Tryz.prog GT ent61 := ok61 keepsGT k85
theorem k86 : TEnt.Ok Tryz.prog GT ent86 := ok86 keepsGT okCutP
theorem k62 : TEnt.Ok Tryz.prog GT ent62 := ok62 keepsGT k38 k86
end Go.Proofs.YtecjedagdpnemaaGreatDoor
