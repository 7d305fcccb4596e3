import Derived.Test.YtdjmfiofdceodaaW3
import Derived.Test.YtdjmfiofdceodaaProg
import Derived.KernelRfl
import Derived.Lib.Builder
import Derived.Lib.Walk
import Derived.Lib.UnsafeStr
import Derived.Lib.Strings
import Derived.WalkKit
import Derived.Laws.Externs
set_option linter.unusedVariables false
set_option linter.unusedSimpArgs false
set_option linter.unusedSectionVars false
section
/- The code of the functions, made ready. -/
namespace Go.Vw.Wm
open Go Go.RowKit Go.Abs Go.Vw
set_option linter.unusedVariables false
def c_gosem_cut_init (x_gosem_cut : Nat) : CF :=
  (.mk 1 (.r [(.s 0 (.cl (.c (.func x_gosem_cut [] [])) []))]) [])
def l_law14_TreeNames_0 : CC :=
  
  (.seq 
  (.seq (.r [(.s 20 (.mv false (.t 3))), (.s 21 (.bo .lss 0 (.t 20) (.c (.int .i64 32))))]) (.cond (.t 21) .skip (.exit 0))) 
  (.seq (.block 1 
  (.seq (.r [(.s 24 (.mv false (.t 1))), (.s 25 (.bo .add 0 (.t 24) (.c (.str [97, 32, 123])))), (.s 1 (.mv true (.t 25)))]) (.r [(.s 26 (.mv false (.t 2))), (.s 27 (.bo .add 0 (.t 26) (.c (.str [125])))), (.s 2 (.mv true (.t 27)))]))) (.r [(.s 22 (.mv false (.t 3))), (.s 23 (.bo .add 0 (.t 22) (.c (.int .i64 1)))), (.s 3 (.mv true (.t 23)))])))
def c_law14_TreeNames (x_tree_Parse x_tree_Print x_tree_Find x_tree_Merge : Nat) : CF :=
  (.mk 122 
  (.seq (.r [(.s 0 (.mv false (.c (.bool false))))]) 
  (.seq (.r [(.s 1 (.mv false (.c (.str [])))), (.s 2 (.mv false (.c (.str []))))]) 
  (.seq 
  (.seq (.r [(.s 3 (.mv false (.c (.int .i64 0))))]) (.block 0 (.loop l_law14_TreeNames_0))) 
  (.seq (.r [(.s 29 (.mv false (.t 1))), (.s 30 (.mv false (.t 2))), (.s 31 (.bo .add 0 (.t 29) (.t 30))), (.s 32 (.cl (.c (.func x_tree_Parse [] [])) [(.t 31)])), (.s 28 (.mv true (.t 32))), (.s 33 (.ex (.t 28) 0)), (.s 34 (.ex (.t 28) 1)), (.s 35 (.ex (.t 28) 2)), (.s 5 (.al [(.int .i64 0), (.int .i64 0)])), (.s 4 (.mv true (.t 33))), (.n (.st true 2 (.t 5) (.t 34))), (.s 6 (.mv true (.t 35)))]) 
  (.seq (.r [(.s 37 (.mv false (.t 1))), (.s 38 (.bo .add 0 (.t 37) (.c (.str [97, 32, 123])))), (.s 39 (.mv false (.t 2))), (.s 40 (.bo .add 0 (.t 38) (.t 39))), (.s 41 (.bo .add 0 (.t 40) (.c (.str [125])))), (.s 42 (.cl (.c (.func x_tree_Parse [] [])) [(.t 41)])), (.s 36 (.mv true (.t 42))), (.s 43 (.ex (.t 36) 0)), (.s 44 (.ex (.t 36) 1)), (.s 45 (.ex (.t 36) 2)), (.s 8 (.al [(.int .i64 0), (.int .i64 0)])), (.s 7 (.mv true (.t 43))), (.n (.st true 2 (.t 8) (.t 44))), (.s 9 (.mv true (.t 45)))]) 
  (.seq (.r [(.s 47 (.bd true [(.vec true []), (.vec true []), (.bool false), (.vec true [])] [])), (.s 48 (.bs false 1 4 [(.vec false []), (.vec false []), (.bool false), (.vec false [])] [(0, (.t 47))])), (.s 49 (.cl (.c (.func x_tree_Print [] [])) [(.t 48)])), (.s 46 (.mv true (.t 49))), (.s 50 (.ex (.t 46) 0)), (.s 51 (.ex (.t 46) 1)), (.s 10 (.mv true (.t 50))), (.s 11 (.mv true (.t 51)))]) 
  (.seq (.r [(.s 53 (.bs false 1 1 [(.str [])] [(0, (.c (.str [97])))])), (.s 54 (.bs false 1 1 [(.str [])] [(0, (.c (.str [98])))])), (.s 55 (.bd true [(.vec true []), (.vec true []), (.bool false), (.vec true [])] [(0, (1, (.t 54)))])), (.s 56 (.bs false 1 4 [(.vec false []), (.vec false []), (.bool false), (.vec false [])] [(0, (.t 55))])), (.s 57 (.bd true [(.vec true []), (.vec true []), (.bool false), (.vec true [])] [(0, (1, (.t 53))), (3, (1, (.t 56)))])), (.s 58 (.bs false 1 4 [(.vec false []), (.vec false []), (.bool false), (.vec false [])] [(0, (.t 57))])), (.s 59 (.cl (.c (.func x_tree_Print [] [])) [(.t 58)])), (.s 52 (.mv true (.t 59))), (.s 60 (.ex (.t 52) 0)), (.s 61 (.ex (.t 52) 1)), (.s 12 (.mv true (.t 60))), (.s 13 (.mv true (.t 61)))]) 
  (.seq (.r [(.s 63 (.bs false 1 1 [(.str [])] [(0, (.c (.str [97, 34])))])), (.s 64 (.bd true [(.vec true []), (.vec true []), (.bool false), (.vec true [])] [(0, (1, (.t 63)))])), (.s 65 (.bs false 1 4 [(.vec false []), (.vec false []), (.bool false), (.vec false [])] [(0, (.t 64))])), (.s 66 (.cl (.c (.func x_tree_Print [] [])) [(.t 65)])), (.s 62 (.mv true (.t 66))), (.s 67 (.ex (.t 62) 0)), (.s 68 (.ex (.t 62) 1)), (.s 14 (.mv true (.t 67))), (.s 15 (.mv true (.t 68)))]) 
  (.seq (.r [(.s 70 (.bs false 2 1 [(.str [])] [(0, (.c (.str [97, 32, 98]))), (1, (.c (.str [])))])), (.s 71 (.bd true [(.vec true []), (.vec true []), (.bool false), (.vec true [])] [(0, (1, (.t 70))), (2, (1, (.c (.bool true))))])), (.s 72 (.bs false 1 4 [(.vec false []), (.vec false []), (.bool false), (.vec false [])] [(0, (.t 71))])), (.s 73 (.cl (.c (.func x_tree_Print [] [])) [(.t 72)])), (.s 69 (.mv true (.t 73))), (.s 74 (.ex (.t 69) 0)), (.s 75 (.ex (.t 69) 1)), (.s 16 (.mv true (.t 74))), (.s 17 (.mv true (.t 75)))]) 
  (.seq (.r [(.s 77 (.cl (.c (.func x_tree_Find [] [])) [(.c (.vec true [])), (.c (.vec true []))])), (.s 76 (.mv true (.t 77))), (.s 78 (.ex (.t 76) 0)), (.s 79 (.ex (.t 76) 1)), (.s 18 (.mv true (.t 78))), (.s 19 (.mv true (.t 79)))]) 
  (.seq (.r [(.s 80 (.mv false (.c (.bool true)))), (.g 80 true 81 (.mv false (.t 6))), (.g 80 true 82 (.bo .eql 0 (.t 81) (.c (.int .i64 0)))), (.s 83 (.pk (.t 80) (.t 82) (.c (.bool false)))), (.s 84 (.mv true (.t 83))), (.g 84 true 85 (.mv false (.t 9))), (.g 84 true 86 (.bo .eql 0 (.t 85) (.c (.int .i64 140)))), (.s 87 (.pk (.t 84) (.t 86) (.c (.bool false)))), (.s 88 (.mv true (.t 87))), (.g 88 true 89 (.ld false (some 2) (.t 8))), (.g 88 true 90 (.bd true [(.int .i64 0), (.int .i64 0)] [(0, (1, (.c (.int .i64 1)))), (1, (1, (.c (.int .i64 99))))])), (.g 88 true 91 (.bo .eql 4 (.t 89) (.t 90))), (.s 92 (.pk (.t 88) (.t 91) (.c (.bool false)))), (.s 93 (.mv true (.t 92))), (.g 93 true 94 (.mv false (.t 11))), (.g 93 true 95 (.bo .eql 0 (.t 94) (.c (.int .i64 1)))), (.s 96 (.pk (.t 93) (.t 95) (.c (.bool false)))), (.s 97 (.mv true (.t 96))), (.g 97 true 98 (.mv false (.t 13))), (.g 97 true 99 (.bo .eql 0 (.t 98) (.c (.int .i64 1)))), (.s 100 (.pk (.t 97) (.t 99) (.c (.bool false)))), (.s 101 (.mv true (.t 100))), (.g 101 true 102 (.mv false (.t 15))), (.g 101 true 103 (.bo .eql 0 (.t 102) (.c (.int .i64 1)))), (.s 104 (.pk (.t 101) (.t 103) (.c (.bool false)))), (.s 105 (.mv true (.t 104))), (.g 105 true 106 (.mv false (.t 16))), (.g 105 true 107 (.bo .eql 0 (.t 106) (.c (.str [34, 97, 32, 98, 34, 32, 34, 34, 32, 123, 10, 125, 10])))), (.s 108 (.pk (.t 105) (.t 107) (.c (.bool false)))), (.s 109 (.mv true (.t 108))), (.g 109 true 110 (.mv false (.t 17))), (.g 109 true 111 (.bo .eql 0 (.t 110) (.c (.int .i64 0)))), (.s 112 (.pk (.t 109) (.t 111) (.c (.bool false)))), (.s 113 (.mv true (.t 112))), (.g 113 true 114 (.mv false (.t 19))), (.g 113 true 115 (.uo .not (.t 114))), (.s 116 (.pk (.t 113) (.t 115) (.c (.bool false)))), (.s 117 (.mv true (.t 116))), (.g 117 true 118 (.cl (.c (.func x_tree_Merge [] [])) [(.c (.vec true []))])), (.g 117 true 119 (.le true (.t 118))), (.g 117 true 120 (.bo .eql 0 (.t 119) (.c (.int .i64 0)))), (.s 121 (.pk (.t 117) (.t 120) (.c (.bool false)))), (.s 0 (.mv true (.t 121)))]) .ret))))))))))) [(.t 0)])
def c_law14_TreeReads (x_ref14_Parse x_tree_Parse x_law14_rows x_ref14_Exact x_law14_spoil x_law14_awake : Nat) : CF :=
  (.mk 59 
  (.seq (.r [(.s 2 (.mv false (.c (.bool false))))]) 
  (.seq (.r [(.s 13 (.mv false (.t 0))), (.s 14 (.cl (.c (.func x_ref14_Parse [] [])) [(.t 13)])), (.s 12 (.mv true (.t 14))), (.s 15 (.ex (.t 12) 0)), (.s 16 (.ex (.t 12) 1)), (.s 17 (.ex (.t 12) 2)), (.s 4 (.al [(.int .i64 0), (.int .i64 0)])), (.s 3 (.mv true (.t 15))), (.n (.st true 2 (.t 4) (.t 16))), (.s 5 (.mv true (.t 17)))]) 
  (.seq (.r [(.s 19 (.mv false (.t 0))), (.s 20 (.cl (.c (.func x_tree_Parse [] [])) [(.t 19)])), (.s 18 (.mv true (.t 20))), (.s 21 (.ex (.t 18) 0)), (.s 22 (.ex (.t 18) 1)), (.s 23 (.ex (.t 18) 2)), (.s 7 (.al [(.int .i64 0), (.int .i64 0)])), (.s 6 (.mv true (.t 21))), (.n (.st true 2 (.t 7) (.t 22))), (.s 8 (.mv true (.t 23)))]) 
  (.seq (.r [(.s 25 (.mv false (.t 0))), (.s 26 (.cl (.c (.func x_tree_Parse [] [])) [(.t 25)])), (.s 24 (.mv true (.t 26))), (.s 27 (.ex (.t 24) 0)), (.s 28 (.ex (.t 24) 1)), (.s 29 (.ex (.t 24) 2)), (.s 10 (.al [(.int .i64 0), (.int .i64 0)])), (.s 9 (.mv true (.t 27))), (.n (.st true 2 (.t 10) (.t 28))), (.s 11 (.mv true (.t 29)))]) 
  (.seq 
  (.seq (.r [(.s 30 (.ld false (some 2) (.t 4))), (.s 31 (.ld false (some 2) (.t 7))), (.s 32 (.bo .neq 4 (.t 30) (.t 31))), (.s 33 (.mv true (.t 32))), (.g 33 false 34 (.mv false (.t 5))), (.g 33 false 35 (.mv false (.t 8))), (.g 33 false 36 (.bo .neq 0 (.t 34) (.t 35))), (.s 37 (.pk (.t 33) (.c (.bool true)) (.t 36))), (.s 38 (.mv true (.t 37))), (.g 38 false 39 (.mv false (.t 6))), (.g 38 false 40 (.cl (.c (.func x_law14_rows [] [])) [(.t 39), (.c (.int .i64 0))])), (.g 38 false 41 (.mv false (.t 3))), (.g 38 false 42 (.cl (.c (.func x_ref14_Exact [] [])) [(.t 40), (.t 41)])), (.g 38 false 43 (.uo .not (.t 42))), (.s 44 (.pk (.t 38) (.c (.bool true)) (.t 43))), (.s 45 (.mv true (.t 44))), (.g 45 false 46 (.mv false (.t 6))), (.g 45 false 47 (.cl (.c (.func x_law14_spoil [] [])) [(.t 46)])), (.g 45 false 48 (.mv false (.t 3))), (.g 45 false 49 (.le true (.t 48))), (.g 45 false 50 (.bo .neq 0 (.t 47) (.t 49))), (.s 51 (.pk (.t 45) (.c (.bool true)) (.t 50)))]) (.cond (.t 51) 
  (.seq (.r [(.s 2 (.mv false (.c (.bool false))))]) .ret) .skip)) 
  (.seq (.r [(.s 52 (.mv false (.t 9))), (.s 53 (.cl (.c (.func x_law14_rows [] [])) [(.t 52), (.c (.int .i64 0))])), (.s 54 (.mv false (.t 3))), (.s 55 (.cl (.c (.func x_ref14_Exact [] [])) [(.t 53), (.t 54)])), (.s 56 (.mv true (.t 55))), (.g 56 true 57 (.cl (.c (.func x_law14_awake [] [])) [])), (.s 58 (.pk (.t 56) (.t 57) (.c (.bool false)))), (.s 2 (.mv true (.t 58)))]) .ret)))))) [(.t 2)])
def c_law14_TreeBack (x_law14_awake x_law14_good x_law14_nodes x_tree_Print x_tree_Parse x_tree_Same x_law14_wide x_law14_rows : Nat) : CF :=
  (.mk 99 
  (.seq (.r [(.s 6 (.mv false (.c (.bool false))))]) 
  (.seq 
  (.seq (.r [(.s 18 (.cl (.c (.func x_law14_awake [] [])) [])), (.s 19 (.uo .not (.t 18)))]) (.cond (.t 19) 
  (.seq (.r [(.s 6 (.mv false (.c (.bool false))))]) .ret) .skip)) 
  (.seq (.r [(.s 20 (.mv false (.t 0))), (.s 21 (.cl (.c (.func x_law14_good [] [])) [(.t 20)])), (.s 22 (.cl (.c (.func x_law14_nodes [] [])) [(.t 21), (.c (.int .i64 0))])), (.s 7 (.mv true (.t 22)))]) 
  (.seq (.r [(.s 24 (.mv false (.t 7))), (.s 25 (.cl (.c (.func x_tree_Print [] [])) [(.t 24)])), (.s 23 (.mv true (.t 25))), (.s 26 (.ex (.t 23) 0)), (.s 27 (.ex (.t 23) 1)), (.s 8 (.mv true (.t 26))), (.s 9 (.mv true (.t 27)))]) 
  (.seq 
  (.seq (.r [(.s 28 (.mv false (.t 9))), (.s 29 (.bo .eql 0 (.t 28) (.c (.int .i64 0)))), (.s 30 (.mv true (.t 29))), (.g 30 true 31 (.mv false (.t 8))), (.g 30 true 32 (.le false (.t 31))), (.g 30 true 33 (.bo .lss 0 (.t 32) (.c (.int .i64 60000)))), (.s 34 (.pk (.t 30) (.t 33) (.c (.bool false)))), (.s 35 (.mv true (.t 34))), (.g 35 true 36 (.mv false (.t 0))), (.g 35 true 37 (.le true (.t 36))), (.g 35 true 38 (.bo .lss 0 (.t 37) (.c (.int .i64 2000)))), (.s 39 (.pk (.t 35) (.t 38) (.c (.bool false))))]) (.cond (.t 39) 
  (.seq (.r [(.s 41 (.mv false (.t 8))), (.s 42 (.cl (.c (.func x_tree_Parse [] [])) [(.t 41)])), (.s 40 (.mv true (.t 42))), (.s 43 (.ex (.t 40) 0)), (.s 44 (.ex (.t 40) 1)), (.s 45 (.ex (.t 40) 2)), (.s 11 (.al [(.int .i64 0), (.int .i64 0)])), (.s 10 (.mv true (.t 43))), (.n (.st true 2 (.t 11) (.t 44))), (.s 12 (.mv true (.t 45)))]) 
  (.seq (.r [(.s 46 (.mv false (.t 12))), (.s 47 (.bo .neq 0 (.t 46) (.c (.int .i64 0)))), (.s 48 (.mv true (.t 47))), (.g 48 false 49 (.mv false (.t 7))), (.g 48 false 50 (.mv false (.t 10))), (.g 48 false 51 (.cl (.c (.func x_tree_Same [] [])) [(.t 49), (.t 50)])), (.g 48 false 52 (.uo .not (.t 51))), (.s 53 (.pk (.t 48) (.c (.bool true)) (.t 52)))]) (.cond (.t 53) 
  (.seq (.r [(.s 6 (.mv false (.c (.bool false))))]) .ret) .skip))) .skip)) 
  (.seq (.r [(.s 55 (.mv false (.t 1))), (.s 56 (.cl (.c (.func x_tree_Parse [] [])) [(.t 55)])), (.s 54 (.mv true (.t 56))), (.s 57 (.ex (.t 54) 0)), (.s 58 (.ex (.t 54) 1)), (.s 59 (.ex (.t 54) 2)), (.s 14 (.al [(.int .i64 0), (.int .i64 0)])), (.s 13 (.mv true (.t 57))), (.n (.st true 2 (.t 14) (.t 58))), (.s 9 (.mv true (.t 59)))]) 
  (.seq 
  (.seq (.r [(.s 60 (.mv false (.t 9))), (.s 61 (.bo .neq 0 (.t 60) (.c (.int .i64 0))))]) (.cond (.t 61) 
  (.seq (.r [(.s 62 (.mv false (.t 13))), (.s 63 (.le true (.t 62))), (.s 64 (.bo .eql 0 (.t 63) (.c (.int .i64 0)))), (.s 6 (.mv true (.t 64)))]) .ret) .skip)) 
  (.seq (.r [(.s 66 (.mv false (.t 13))), (.s 67 (.cl (.c (.func x_tree_Print [] [])) [(.t 66)])), (.s 65 (.mv true (.t 67))), (.s 68 (.ex (.t 65) 0)), (.s 69 (.ex (.t 65) 1)), (.s 8 (.mv true (.t 68))), (.s 15 (.mv true (.t 69)))]) 
  (.seq 
  (.seq (.r [(.s 70 (.mv false (.t 15))), (.s 71 (.bo .neq 0 (.t 70) (.c (.int .i64 0))))]) (.cond (.t 71) 
  (.seq (.r [(.s 6 (.mv false (.c (.bool false))))]) .ret) .skip)) 
  (.seq (.r [(.s 73 (.mv false (.t 2))), (.s 74 (.cl (.c (.func x_law14_wide [] [])) [(.t 73)])), (.s 75 (.bo .add 0 (.c (.str [32, 47, 42, 32, 120, 32, 42, 47, 32])) (.t 74))), (.s 76 (.mv false (.t 8))), (.s 77 (.bo .add 0 (.t 75) (.t 76))), (.s 78 (.bo .add 0 (.t 77) (.c (.str [35, 32, 121])))), (.s 79 (.cl (.c (.func x_tree_Parse [] [])) [(.t 78)])), (.s 72 (.mv true (.t 79))), (.s 80 (.ex (.t 72) 0)), (.s 81 (.ex (.t 72) 1)), (.s 82 (.ex (.t 72) 2)), (.s 17 (.al [(.int .i64 0), (.int .i64 0)])), (.s 16 (.mv true (.t 80))), (.n (.st true 2 (.t 17) (.t 81))), (.s 9 (.mv true (.t 82)))]) 
  (.seq 
  (.seq (.r [(.s 83 (.mv false (.t 8))), (.s 84 (.le false (.t 83))), (.s 85 (.bo .gtr 0 (.t 84) (.c (.int .i64 60000)))), (.s 86 (.mv true (.t 85))), (.g 86 false 87 (.mv false (.t 13))), (.g 86 false 88 (.cl (.c (.func x_law14_rows [] [])) [(.t 87), (.c (.int .i64 0))])), (.g 86 false 89 (.le true (.t 88))), (.g 86 false 90 (.bo .gtr 0 (.t 89) (.c (.int .i64 1500)))), (.s 91 (.pk (.t 86) (.c (.bool true)) (.t 90)))]) (.cond (.t 91) 
  (.seq (.r [(.s 6 (.mv false (.c (.bool true))))]) .ret) .skip)) 
  (.seq (.r [(.s 92 (.mv false (.t 9))), (.s 93 (.bo .eql 0 (.t 92) (.c (.int .i64 0)))), (.s 94 (.mv true (.t 93))), (.g 94 true 95 (.mv false (.t 13))), (.g 94 true 96 (.mv false (.t 16))), (.g 94 true 97 (.cl (.c (.func x_tree_Same [] [])) [(.t 95), (.t 96)])), (.s 98 (.pk (.t 94) (.t 97) (.c (.bool false)))), (.s 6 (.mv true (.t 98)))]) .ret)))))))))))) [(.t 6)])
def l_law14_TreeWrites_0 : CC :=
  
  (.seq 
  (.seq (.r [(.s 96 (.mv false (.t 16))), (.s 97 (.mv false (.t 0))), (.s 98 (.le true (.t 97))), (.s 99 (.bo .lss 0 (.t 96) (.t 98))), (.s 100 (.mv true (.t 99))), (.g 100 true 101 (.mv false (.t 0))), (.g 100 true 102 (.mv false (.t 16))), (.g 100 true 103 (.ia 4 (.t 101) (.t 102))), (.g 100 true 104 (.fa (.t 103) 0)), (.g 100 true 105 (.ld false none (.t 104))), (.g 100 true 106 (.bo .gtr 0 (.t 105) (.c (.int .i64 0)))), (.s 107 (.pk (.t 100) (.t 106) (.c (.bool false))))]) (.cond (.t 107) .skip (.exit 2))) (.block 3 (.r [(.s 108 (.mv false (.t 16))), (.s 109 (.bo .add 0 (.t 108) (.c (.int .i64 1)))), (.s 16 (.mv true (.t 109)))])))
def l_law14_TreeWrites_1 (x_law14_same x_law14_rows x_ref14_Exact x_law14_spoil x_law14_awake : Nat) : CC :=
  
  (.seq 
  (.seq (.r [(.s 64 (.mv false (.t 15))), (.s 65 (.mv false (.t 0))), (.s 66 (.le true (.t 65))), (.s 67 (.bo .lss 0 (.t 64) (.t 66)))]) (.cond (.t 67) .skip (.exit 0))) 
  (.seq (.block 1 
  (.seq 
  (.seq (.r [(.s 70 (.mv false (.t 0))), (.s 71 (.mv false (.t 15))), (.s 72 (.ia 4 (.t 70) (.t 71))), (.s 73 (.fa (.t 72) 0)), (.s 74 (.ld false none (.t 73))), (.s 75 (.bo .neq 0 (.t 74) (.c (.int .i64 0)))), (.s 76 (.mv true (.t 75))), (.g 76 false 77 (.mv false (.t 0))), (.g 76 false 78 (.mv false (.t 15))), (.g 76 false 79 (.ia 4 (.t 77) (.t 78))), (.g 76 false 80 (.fa (.t 79) 3)), (.g 76 false 81 (.ld false none (.t 80))), (.g 76 false 82 (.uo .not (.t 81))), (.s 83 (.pk (.t 76) (.c (.bool true)) (.t 82))), (.s 84 (.mv true (.t 83))), (.g 84 false 85 (.mv false (.t 0))), (.g 84 false 86 (.mv false (.t 15))), (.g 84 false 87 (.ia 4 (.t 85) (.t 86))), (.g 84 false 88 (.fa (.t 87) 1)), (.g 84 false 89 (.ld false none (.t 88))), (.g 84 false 90 (.mv false (.t 2))), (.g 84 false 91 (.cl (.c (.func x_law14_same [] [])) [(.t 89), (.t 90)])), (.g 84 false 92 (.uo .not (.t 91))), (.s 93 (.pk (.t 84) (.c (.bool true)) (.t 92)))]) (.cond (.t 93) (.exit 1) .skip)) 
  (.seq (.r [(.s 94 (.mv false (.t 15))), (.s 95 (.bo .add 0 (.t 94) (.c (.int .i64 1)))), (.s 16 (.mv true (.t 95)))]) 
  (.seq (.block 2 (.loop l_law14_TreeWrites_0)) 
  (.seq 
  (.seq (.r [(.s 110 (.mv false (.t 14))), (.s 111 (.uo .not (.t 110))), (.s 112 (.mv true (.t 111))), (.g 112 false 113 (.mv false (.t 13))), (.g 112 false 114 (.cl (.c (.func x_law14_rows [] [])) [(.t 113), (.c (.int .i64 1))])), (.g 112 false 115 (.mv false (.t 0))), (.g 112 false 116 (.mv false (.t 15))), (.g 112 false 117 (.bo .add 0 (.t 116) (.c (.int .i64 1)))), (.g 112 false 118 (.mv false (.t 16))), (.g 112 false 119 (.sV 4 (.t 115) (some (.t 117)) (some (.t 118)))), (.g 112 false 120 (.cl (.c (.func x_ref14_Exact [] [])) [(.t 114), (.t 119)])), (.g 112 false 121 (.uo .not (.t 120))), (.s 122 (.pk (.t 112) (.c (.bool true)) (.t 121)))]) (.cond (.t 122) 
  (.seq (.r [(.s 6 (.mv false (.c (.bool false))))]) .ret) .skip)) 
  (.seq (.r [(.s 123 (.mv false (.t 13))), (.s 124 (.cl (.c (.func x_law14_spoil [] [])) [(.t 123)]))]) 
  (.seq (.r [(.s 125 (.mv false (.t 7))), (.s 126 (.cl (.c (.func x_law14_rows [] [])) [(.t 125), (.c (.int .i64 0))])), (.s 127 (.mv false (.t 0))), (.s 128 (.cl (.c (.func x_ref14_Exact [] [])) [(.t 126), (.t 127)])), (.s 129 (.mv true (.t 128))), (.g 129 true 130 (.cl (.c (.func x_law14_awake [] [])) [])), (.s 131 (.pk (.t 129) (.t 130) (.c (.bool false)))), (.s 6 (.mv true (.t 131)))]) .ret))))))) (.r [(.s 68 (.mv false (.t 15))), (.s 69 (.bo .add 0 (.t 68) (.c (.int .i64 1)))), (.s 15 (.mv true (.t 69)))])))
def c_law14_TreeWrites (x_law14_good x_law14_nodes x_tree_Print x_ref14_Print x_tree_Same x_ref14_Same x_tree_Find x_law14_same x_law14_rows x_ref14_Exact x_law14_spoil x_law14_awake : Nat) : CF :=
  (.mk 142 
  (.seq (.r [(.s 6 (.mv false (.c (.bool false))))]) 
  (.seq (.r [(.s 17 (.mv false (.t 0))), (.s 18 (.cl (.c (.func x_law14_good [] [])) [(.t 17)])), (.s 19 (.mv false (.t 1))), (.s 20 (.cl (.c (.func x_law14_good [] [])) [(.t 19)])), (.s 0 (.mv true (.t 18))), (.s 1 (.mv true (.t 20)))]) 
  (.seq (.r [(.s 21 (.mv false (.t 0))), (.s 22 (.cl (.c (.func x_law14_nodes [] [])) [(.t 21), (.c (.int .i64 0))])), (.s 23 (.mv false (.t 1))), (.s 24 (.cl (.c (.func x_law14_nodes [] [])) [(.t 23), (.c (.int .i64 0))])), (.s 7 (.mv true (.t 22))), (.s 8 (.mv true (.t 24)))]) 
  (.seq (.r [(.s 26 (.mv false (.t 7))), (.s 27 (.cl (.c (.func x_tree_Print [] [])) [(.t 26)])), (.s 25 (.mv true (.t 27))), (.s 28 (.ex (.t 25) 0)), (.s 29 (.ex (.t 25) 1)), (.s 9 (.mv true (.t 28))), (.s 10 (.mv true (.t 29)))]) 
  (.seq (.r [(.s 31 (.mv false (.t 0))), (.s 32 (.cl (.c (.func x_ref14_Print [] [])) [(.t 31)])), (.s 30 (.mv true (.t 32))), (.s 33 (.ex (.t 30) 0)), (.s 34 (.ex (.t 30) 1)), (.s 11 (.mv true (.t 33))), (.s 12 (.mv true (.t 34)))]) 
  (.seq 
  (.seq (.r [(.s 35 (.mv false (.t 9))), (.s 36 (.mv false (.t 11))), (.s 37 (.bo .neq 0 (.t 35) (.t 36))), (.s 38 (.mv true (.t 37))), (.g 38 false 39 (.mv false (.t 10))), (.g 38 false 40 (.mv false (.t 12))), (.g 38 false 41 (.bo .neq 0 (.t 39) (.t 40))), (.s 42 (.pk (.t 38) (.c (.bool true)) (.t 41))), (.s 43 (.mv true (.t 42))), (.g 43 false 44 (.mv false (.t 7))), (.g 43 false 45 (.mv false (.t 8))), (.g 43 false 46 (.cl (.c (.func x_tree_Same [] [])) [(.t 44), (.t 45)])), (.g 43 false 47 (.mv false (.t 0))), (.g 43 false 48 (.mv false (.t 1))), (.g 43 false 49 (.cl (.c (.func x_ref14_Same [] [])) [(.t 47), (.t 48)])), (.g 43 false 50 (.bo .neq 3 (.t 46) (.t 49))), (.s 51 (.pk (.t 43) (.c (.bool true)) (.t 50))), (.s 52 (.mv true (.t 51))), (.g 52 false 53 (.mv false (.t 7))), (.g 52 false 54 (.mv false (.t 7))), (.g 52 false 55 (.cl (.c (.func x_tree_Same [] [])) [(.t 53), (.t 54)])), (.g 52 false 56 (.uo .not (.t 55))), (.s 57 (.pk (.t 52) (.c (.bool true)) (.t 56)))]) (.cond (.t 57) 
  (.seq (.r [(.s 6 (.mv false (.c (.bool false))))]) .ret) .skip)) 
  (.seq (.r [(.s 59 (.mv false (.t 7))), (.s 60 (.mv false (.t 2))), (.s 61 (.cl (.c (.func x_tree_Find [] [])) [(.t 59), (.t 60)])), (.s 58 (.mv true (.t 61))), (.s 62 (.ex (.t 58) 0)), (.s 63 (.ex (.t 58) 1)), (.s 13 (.mv true (.t 62))), (.s 14 (.mv true (.t 63)))]) 
  (.seq 
  (.seq (.r [(.s 15 (.mv false (.c (.int .i64 0))))]) (.block 0 (.loop (l_law14_TreeWrites_1 x_law14_same x_law14_rows x_ref14_Exact x_law14_spoil x_law14_awake)))) 
  (.seq (.r [(.s 132 (.mv false (.t 14))), (.s 133 (.uo .not (.t 132))), (.s 134 (.mv true (.t 133))), (.g 134 true 135 (.mv false (.t 13))), (.g 134 true 136 (.le true (.t 135))), (.g 134 true 137 (.bo .eql 0 (.t 136) (.c (.int .i64 0)))), (.s 138 (.pk (.t 134) (.t 137) (.c (.bool false)))), (.s 139 (.mv true (.t 138))), (.g 139 true 140 (.cl (.c (.func x_law14_awake [] [])) [])), (.s 141 (.pk (.t 139) (.t 140) (.c (.bool false)))), (.s 6 (.mv true (.t 141)))]) .ret))))))))) [(.t 6)])
def c_tree_Parse (x_lex_Tokens x_tree_reader_list : Nat) : CF :=
  (.mk 41 
  (.seq (.r [(.s 2 (.mv false (.c (.vec true [])))), (.s 3 (.al [(.int .i64 0), (.int .i64 0)])), (.s 4 (.mv false (.c (.int .i64 0))))]) 
  (.seq (.r [(.s 11 (.mv false (.t 0))), (.s 12 (.cl (.c (.func x_lex_Tokens [] [])) [(.t 11)])), (.s 10 (.mv true (.t 12))), (.s 13 (.ex (.t 10) 0)), (.s 14 (.ex (.t 10) 1)), (.s 15 (.ex (.t 10) 2)), (.s 6 (.al [(.int .i64 0), (.int .i64 0)])), (.s 5 (.mv true (.t 13))), (.n (.st true 2 (.t 6) (.t 14))), (.s 7 (.mv true (.t 15)))]) 
  (.seq 
  (.seq (.r [(.s 16 (.mv false (.t 7))), (.s 17 (.bo .neq 0 (.t 16) (.c (.int .i64 0))))]) (.cond (.t 17) 
  (.seq (.r [(.s 18 (.ld false (some 2) (.t 6))), (.s 19 (.mv false (.t 7))), (.s 2 (.mv false (.c (.vec true [])))), (.n (.st true 2 (.t 3) (.t 18))), (.s 4 (.mv true (.t 19)))]) .ret) .skip)) 
  (.seq (.r [(.s 20 (.mv false (.t 5))), (.s 21 (.bd true [(.vec true []), (.int .i64 0), (.int .i64 0), (.int .i64 0)] [(0, (1, (.t 20)))])), (.s 22 (.bx true (.t 21))), (.s 8 (.mv true (.t 22)))]) 
  (.seq (.r [(.s 23 (.mv false (.t 8))), (.s 24 (.bd true [(.int .i64 0), (.int .i64 0)] [])), (.s 25 (.cl (.c (.func x_tree_reader_list [] [])) [(.t 23), (.c (.int .i64 0)), (.t 24)])), (.s 9 (.mv true (.t 25)))]) 
  (.seq 
  (.seq (.r [(.s 26 (.mv false (.t 8))), (.s 27 (.nc (.t 26))), (.s 28 (.fa (.t 27) 1)), (.s 29 (.ld false none (.t 28))), (.s 30 (.bo .neq 0 (.t 29) (.c (.int .i64 0))))]) (.cond (.t 30) 
  (.seq (.a [(.s 31 (.mv false (.t 8))), (.s 32 (.nc (.t 31))), (.s 33 (.fa (.t 32) 2)), (.s 34 (.ld false (some 2) (.t 33))), (.s 35 (.mv false (.t 8))), (.s 36 (.nc (.t 35))), (.s 37 (.fa (.t 36) 1)), (.s 38 (.ld false none (.t 37))), (.s 2 (.mv false (.c (.vec true [])))), (.n (.st true 2 (.t 3) (.t 34))), (.s 4 (.mv true (.t 38)))] [(37, 3)]) .ret) .skip)) 
  (.seq (.r [(.s 39 (.mv false (.t 9))), (.s 40 (.bd true [(.int .i64 0), (.int .i64 0)] [])), (.s 2 (.mv true (.t 39))), (.n (.st true 2 (.t 3) (.t 40))), (.s 4 (.mv false (.c (.int .i64 0))))]) .ret))))))) [(.t 2), (.c 3 (some 2)), (.t 4)])
def c_tree_Print (x_tree_write x_strings_Builder_String tB uB : Nat) : CF :=
  (.mk 9 
  (.seq (.r [(.s 2 (.mv false (.c (.str [])))), (.s 3 (.mv false (.c (.int .i64 0))))]) 
  (.seq (.r [(.s 4 (.nb tB uB))]) 
  (.seq 
  (.seq (.r [(.s 5 (.mv false (.t 0))), (.s 6 (.cl (.c (.func x_tree_write [] [])) [(.t 4), (.t 5), (.c (.int .i64 0))])), (.s 7 (.uo .not (.t 6)))]) (.cond (.t 7) 
  (.seq (.r [(.s 2 (.mv false (.c (.str [])))), (.s 3 (.mv false (.c (.int .i64 1))))]) .ret) .skip)) 
  (.seq (.r [(.s 8 (.cl (.c (.func x_strings_Builder_String [] [])) [(.t 4)])), (.s 2 (.mv true (.t 8))), (.s 3 (.mv false (.c (.int .i64 0))))]) .ret)))) [(.t 2), (.t 3)])
def l_tree_Find_0 (x_slices_Equal_string x_tree_twins : Nat) : CC :=
  
  (.seq (.r [(.s 11 (.bo .lss 0 (.t 10) (.t 9)))]) 
  (.seq (.cond (.t 11) .skip (.exit 0)) 
  (.seq (.block 1 
  (.seq (.r [(.s 12 (.ia 4 (.t 8) (.t 10))), (.s 13 (.ld false (some 4) (.t 12))), (.s 7 (.al [(.vec true []), (.vec true []), (.bool false), (.vec true [])])), (.n (.st true 4 (.t 7) (.t 13)))]) 
  (.seq (.r [(.s 14 (.fa (.t 7) 2)), (.s 15 (.ld false none (.t 14))), (.s 16 (.mv true (.t 15))), (.g 16 true 17 (.fa (.t 7) 0)), (.g 16 true 18 (.ld false none (.t 17))), (.g 16 true 19 (.mv false (.t 1))), (.g 16 true 20 (.cl (.c (.func x_slices_Equal_string [] [])) [(.t 18), (.t 19)])), (.s 21 (.pk (.t 16) (.t 20) (.c (.bool false))))]) (.cond (.t 21) 
  (.seq (.r [(.s 22 (.fa (.t 7) 3)), (.s 23 (.ld false none (.t 22))), (.s 24 (.cl (.c (.func x_tree_twins [] [])) [(.t 23)])), (.s 4 (.mv true (.t 24))), (.s 5 (.mv false (.c (.bool true))))]) .ret) .skip)))) (.r [(.s 25 (.bo .add 0 (.t 10) (.c (.int .i64 1)))), (.s 10 (.mv true (.t 25)))]))))
def c_tree_Find (x_slices_Equal_string x_tree_twins : Nat) : CF :=
  (.mk 26 
  (.seq (.r [(.s 4 (.mv false (.c (.vec true [])))), (.s 5 (.mv false (.c (.bool false))))]) 
  (.seq 
  (.seq (.r [(.s 8 (.mv false (.t 0))), (.s 9 (.le true (.t 8))), (.s 10 (.mv false (.c (.int .i64 0))))]) (.block 0 (.loop (l_tree_Find_0 x_slices_Equal_string x_tree_twins)))) 
  (.seq (.r [(.s 4 (.mv false (.c (.vec true [])))), (.s 5 (.mv false (.c (.bool false))))]) .ret))) [(.t 4), (.t 5)])
def l_tree_Merge_0 (x_tree_Merge : Nat) : CC :=
  
  (.seq (.r [(.s 45 (.bo .lss 0 (.t 44) (.t 43)))]) 
  (.seq (.cond (.t 45) .skip (.exit 3)) 
  (.seq (.block 4 
  (.seq (.r [(.s 46 (.mv false (.t 44))), (.s 7 (.mv true (.t 46)))]) (.r [(.s 47 (.mv false (.t 3))), (.s 48 (.mv false (.t 7))), (.s 49 (.mv false (.t 3))), (.s 50 (.mv false (.t 7))), (.s 51 (.ia 4 (.t 49) (.t 50))), (.s 52 (.fa (.t 51) 3)), (.s 53 (.ld false none (.t 52))), (.s 54 (.cl (.c (.func x_tree_Merge [] [])) [(.t 53)])), (.s 55 (.ia 4 (.t 47) (.t 48))), (.s 56 (.fa (.t 55) 3)), (.n (.st true 1 (.t 56) (.t 54)))]))) (.r [(.s 57 (.bo .add 0 (.t 44) (.c (.int .i64 1)))), (.s 44 (.mv true (.t 57)))]))))
def l_tree_Merge_1 (x_slices_IndexFunc_tree_Node x_tree_twin x_tree_twins x_tree_Merge_1 : Nat) : CC :=
  
  (.seq (.r [(.s 11 (.bo .lss 0 (.t 10) (.t 9)))]) 
  (.seq (.cond (.t 11) .skip (.exit 0)) 
  (.seq (.block 1 
  (.seq (.r [(.s 12 (.ia 4 (.t 8) (.t 10))), (.s 13 (.ld false (some 4) (.t 12))), (.s 5 (.al [(.vec true []), (.vec true []), (.bool false), (.vec true [])])), (.n (.st true 4 (.t 5) (.t 13)))]) 
  (.seq (.r [(.s 14 (.mv false (.t 3))), (.s 15 (.mf x_tree_Merge_1 [] [(.t 5)])), (.s 16 (.cl (.c (.func x_slices_IndexFunc_tree_Node [] [])) [(.t 14), (.t 15)])), (.s 6 (.mv true (.t 16)))]) (.block 2 
  (.seq (.r [(.s 18 (.mv false (.t 6))), (.s 19 (.bo .lss 0 (.t 18) (.c (.int .i64 0)))), (.s 17 (.mv true (.t 19)))]) (.cond (.t 17) (.r [(.s 20 (.mv true (.t 3))), (.s 21 (.ld false (some 4) (.t 5))), (.s 22 (.cl (.c (.func x_tree_twin [] [])) [(.t 21)])), (.s 23 (.bs false 1 4 [(.vec false []), (.vec false []), (.bool false), (.vec false [])] [(0, (.t 22))])), (.s 24 (.ap false 4 80 (.t 20) (.t 23))), (.s 3 (.mv true (.t 24)))]) 
  (.seq (.r [(.s 26 (.fa (.t 5) 2)), (.s 27 (.ld false none (.t 26))), (.s 25 (.mv true (.t 27)))]) (.cond (.t 25) (.r [(.s 28 (.mv false (.t 3))), (.s 29 (.mv false (.t 6))), (.s 30 (.mv false (.t 3))), (.s 31 (.mv false (.t 6))), (.s 32 (.ia 4 (.t 30) (.t 31))), (.s 33 (.fa (.t 32) 3)), (.s 34 (.ld true none (.t 33))), (.s 35 (.fa (.t 5) 3)), (.s 36 (.ld false none (.t 35))), (.s 37 (.cl (.c (.func x_tree_twins [] [])) [(.t 36)])), (.s 38 (.ap false 4 80 (.t 34) (.t 37))), (.s 39 (.ia 4 (.t 28) (.t 29))), (.s 40 (.fa (.t 39) 3)), (.n (.st true 1 (.t 40) (.t 38)))]) .skip)))))))) (.r [(.s 41 (.bo .add 0 (.t 10) (.c (.int .i64 1)))), (.s 10 (.mv true (.t 41)))]))))
def c_tree_Merge (x_slices_IndexFunc_tree_Node x_tree_twin x_tree_twins x_tree_Merge x_tree_Merge_1 : Nat) : CF :=
  (.mk 59 
  (.seq (.r [(.s 2 (.mv false (.c (.vec true []))))]) 
  (.seq (.r [(.s 3 (.mv false (.c (.vec true []))))]) 
  (.seq 
  (.seq (.r [(.s 8 (.mv false (.t 0))), (.s 9 (.le true (.t 8))), (.s 10 (.mv false (.c (.int .i64 0))))]) (.block 0 (.loop (l_tree_Merge_1 x_slices_IndexFunc_tree_Node x_tree_twin x_tree_twins x_tree_Merge_1)))) 
  (.seq 
  (.seq (.r [(.s 42 (.mv false (.t 3))), (.s 43 (.le true (.t 42))), (.s 44 (.mv false (.c (.int .i64 0))))]) (.block 3 (.loop (l_tree_Merge_0 x_tree_Merge)))) 
  (.seq (.r [(.s 58 (.mv false (.t 3))), (.s 2 (.mv true (.t 58)))]) .ret))))) [(.t 2)])
def l_ref14_Parse_0 (x_ref14_state_kind x_ref14_state_one x_ref14_state_fail : Nat) : CC :=
  
  (.seq 
  (.seq (.r [(.s 22 (.mv false (.t 8))), (.s 23 (.nc (.t 22))), (.s 24 (.fa (.t 23) 1)), (.s 25 (.ld false none (.t 24))), (.s 26 (.mv false (.t 5))), (.s 27 (.le true (.t 26))), (.s 28 (.bo .lss 0 (.t 25) (.t 27))), (.s 29 (.mv true (.t 28))), (.g 29 true 30 (.mv false (.t 8))), (.g 29 true 31 (.nc (.t 30))), (.g 29 true 32 (.fa (.t 31) 4)), (.g 29 true 33 (.ld false none (.t 32))), (.g 29 true 34 (.bo .eql 0 (.t 33) (.c (.int .i64 0)))), (.s 35 (.pk (.t 29) (.t 34) (.c (.bool false))))]) (.cond (.t 35) .skip (.exit 0))) (.block 1 (.block 2 
  (.seq (.r [(.s 47 (.mv false (.t 8))), (.s 48 (.cl (.c (.func x_ref14_state_kind [] [])) [(.t 47)])), (.s 49 (.bo .eql 0 (.t 48) (.c (.int .u8 1)))), (.s 46 (.mv true (.t 49)))]) (.cond (.t 46) (.r [(.s 50 (.mv false (.t 8))), (.s 51 (.cl (.c (.func x_ref14_state_one [] [])) [(.t 50)]))]) 
  (.seq (.r [(.s 53 (.mv false (.t 8))), (.s 54 (.cl (.c (.func x_ref14_state_kind [] [])) [(.t 53)])), (.s 55 (.bo .eql 0 (.t 54) (.c (.int .u8 3)))), (.s 56 (.mv true (.t 55))), (.g 56 true 57 (.mv false (.t 8))), (.g 56 true 58 (.nc (.t 57))), (.g 56 true 59 (.fa (.t 58) 3)), (.g 56 true 60 (.ld false none (.t 59))), (.g 56 true 61 (.le true (.t 60))), (.g 56 true 62 (.bo .gtr 0 (.t 61) (.c (.int .i64 0)))), (.s 63 (.pk (.t 56) (.t 62) (.c (.bool false)))), (.s 52 (.mv true (.t 63)))]) (.cond (.t 52) 
  (.seq (.r [(.s 64 (.mv false (.t 8))), (.s 65 (.mv false (.t 8))), (.s 66 (.nc (.t 65))), (.s 67 (.fa (.t 66) 3)), (.s 68 (.ld false none (.t 67))), (.s 69 (.mv false (.t 8))), (.s 70 (.nc (.t 69))), (.s 71 (.fa (.t 70) 3)), (.s 72 (.ld false none (.t 71))), (.s 73 (.le true (.t 72))), (.s 74 (.bo .sub 0 (.t 73) (.c (.int .i64 1)))), (.s 75 (.sV 2 (.t 68) none (some (.t 74)))), (.s 76 (.nc (.t 64))), (.s 77 (.fa (.t 76) 3)), (.n (.st true 1 (.t 77) (.t 75)))]) (.r [(.s 78 (.mv false (.t 8))), (.s 79 (.nc (.t 78))), (.s 80 (.fa (.t 79) 1)), (.s 81 (.ld false none (.t 80))), (.s 82 (.bo .add 0 (.t 81) (.c (.int .i64 1)))), (.s 83 (.nc (.t 78))), (.s 84 (.fa (.t 83) 1)), (.n (.st true 1 (.t 84) (.t 82)))])) (.r [(.s 36 (.mv false (.t 8))), (.s 37 (.mv false (.t 5))), (.s 38 (.mv false (.t 8))), (.s 39 (.nc (.t 38))), (.s 40 (.fa (.t 39) 1)), (.s 41 (.ld false none (.t 40))), (.s 42 (.ia 4 (.t 37) (.t 41))), (.s 43 (.fa (.t 42) 2)), (.s 44 (.ld false (some 2) (.t 43))), (.s 45 (.cl (.c (.func x_ref14_state_fail [] [])) [(.t 36), (.c (.int .i64 130)), (.t 44)]))]))))))))
def c_ref14_Parse (x_ref07_Tokens x_ref14_state_kind x_ref14_state_one x_ref14_state_fail : Nat) : CF :=
  (.mk 130 
  (.seq (.r [(.s 2 (.mv false (.c (.vec true [])))), (.s 3 (.al [(.int .i64 0), (.int .i64 0)])), (.s 4 (.mv false (.c (.int .i64 0))))]) 
  (.seq (.r [(.s 10 (.mv false (.t 0))), (.s 11 (.cl (.c (.func x_ref07_Tokens [] [])) [(.t 10)])), (.s 9 (.mv true (.t 11))), (.s 12 (.ex (.t 9) 0)), (.s 13 (.ex (.t 9) 1)), (.s 14 (.ex (.t 9) 2)), (.s 6 (.al [(.int .i64 0), (.int .i64 0)])), (.s 5 (.mv true (.t 12))), (.n (.st true 2 (.t 6) (.t 13))), (.s 7 (.mv true (.t 14)))]) 
  (.seq 
  (.seq (.r [(.s 15 (.mv false (.t 7))), (.s 16 (.bo .neq 0 (.t 15) (.c (.int .i64 0))))]) (.cond (.t 16) 
  (.seq (.r [(.s 17 (.ld false (some 2) (.t 6))), (.s 18 (.mv false (.t 7))), (.s 2 (.mv false (.c (.vec true [])))), (.n (.st true 2 (.t 3) (.t 17))), (.s 4 (.mv true (.t 18)))]) .ret) .skip)) 
  (.seq (.r [(.s 19 (.mv false (.t 5))), (.s 20 (.bd true [(.vec true []), (.int .i64 0), (.vec true []), (.vec true []), (.int .i64 0), (.int .i64 0), (.int .i64 0)] [(0, (1, (.t 19)))])), (.s 21 (.bx true (.t 20))), (.s 8 (.mv true (.t 21)))]) 
  (.seq (.block 0 (.loop (l_ref14_Parse_0 x_ref14_state_kind x_ref14_state_one x_ref14_state_fail))) 
  (.seq 
  (.seq (.r [(.s 85 (.mv false (.t 8))), (.s 86 (.nc (.t 85))), (.s 87 (.fa (.t 86) 4)), (.s 88 (.ld false none (.t 87))), (.s 89 (.bo .eql 0 (.t 88) (.c (.int .i64 0)))), (.s 90 (.mv true (.t 89))), (.g 90 true 91 (.mv false (.t 8))), (.g 90 true 92 (.nc (.t 91))), (.g 90 true 93 (.fa (.t 92) 3)), (.g 90 true 94 (.ld false none (.t 93))), (.g 90 true 95 (.le true (.t 94))), (.g 90 true 96 (.bo .gtr 0 (.t 95) (.c (.int .i64 0)))), (.s 97 (.pk (.t 90) (.t 96) (.c (.bool false))))]) (.cond (.t 97) (.r [(.s 98 (.mv false (.t 8))), (.s 99 (.mv false (.t 8))), (.s 100 (.nc (.t 99))), (.s 101 (.fa (.t 100) 3)), (.s 102 (.ld false none (.t 101))), (.s 103 (.mv false (.t 8))), (.s 104 (.nc (.t 103))), (.s 105 (.fa (.t 104) 3)), (.s 106 (.ld false none (.t 105))), (.s 107 (.le true (.t 106))), (.s 108 (.bo .sub 0 (.t 107) (.c (.int .i64 1)))), (.s 109 (.ia 2 (.t 102) (.t 108))), (.s 110 (.ld false (some 2) (.t 109))), (.s 111 (.cl (.c (.func x_ref14_state_fail [] [])) [(.t 98), (.c (.int .i64 71)), (.t 110)]))]) .skip)) 
  (.seq 
  (.seq (.r [(.s 112 (.mv false (.t 8))), (.s 113 (.nc (.t 112))), (.s 114 (.fa (.t 113) 4)), (.s 115 (.ld false none (.t 114))), (.s 116 (.bo .neq 0 (.t 115) (.c (.int .i64 0))))]) (.cond (.t 116) 
  (.seq (.a [(.s 117 (.mv false (.t 8))), (.s 118 (.nc (.t 117))), (.s 119 (.fa (.t 118) 5)), (.s 120 (.ld false (some 2) (.t 119))), (.s 121 (.mv false (.t 8))), (.s 122 (.nc (.t 121))), (.s 123 (.fa (.t 122) 4)), (.s 124 (.ld false none (.t 123))), (.s 2 (.mv false (.c (.vec true [])))), (.n (.st true 2 (.t 3) (.t 120))), (.s 4 (.mv true (.t 124)))] [(123, 3)]) .ret) .skip)) 
  (.seq (.r [(.s 125 (.mv false (.t 8))), (.s 126 (.nc (.t 125))), (.s 127 (.fa (.t 126) 2)), (.s 128 (.ld false none (.t 127))), (.s 129 (.bd true [(.int .i64 0), (.int .i64 0)] [])), (.s 2 (.mv true (.t 128))), (.n (.st true 2 (.t 3) (.t 129))), (.s 4 (.mv false (.c (.int .i64 0))))]) .ret)))))))) [(.t 2), (.c 3 (some 2)), (.t 4)])
def l_ref14_Exact_0 : CC :=
  
  (.seq 
  (.seq (.r [(.s 17 (.mv false (.t 6))), (.s 18 (.mv false (.t 0))), (.s 19 (.mv false (.t 5))), (.s 20 (.ia 4 (.t 18) (.t 19))), (.s 21 (.fa (.t 20) 2)), (.s 22 (.ld false none (.t 21))), (.s 23 (.le true (.t 22))), (.s 24 (.bo .lss 0 (.t 17) (.t 23)))]) (.cond (.t 24) .skip (.exit 2))) 
  (.seq (.block 3 
  (.seq (.r [(.s 27 (.mv false (.t 6))), (.s 28 (.mv false (.t 1))), (.s 29 (.mv false (.t 5))), (.s 30 (.ia 4 (.t 28) (.t 29))), (.s 31 (.fa (.t 30) 2)), (.s 32 (.ld false none (.t 31))), (.s 33 (.le true (.t 32))), (.s 34 (.bo .geq 0 (.t 27) (.t 33))), (.s 35 (.mv true (.t 34))), (.g 35 false 36 (.mv false (.t 0))), (.g 35 false 37 (.mv false (.t 5))), (.g 35 false 38 (.ia 4 (.t 36) (.t 37))), (.g 35 false 39 (.fa (.t 38) 2)), (.g 35 false 40 (.ld false none (.t 39))), (.g 35 false 41 (.mv false (.t 6))), (.g 35 false 42 (.ia 2 (.t 40) (.t 41))), (.g 35 false 43 (.ld false (some 2) (.t 42))), (.g 35 false 44 (.mv false (.t 1))), (.g 35 false 45 (.mv false (.t 5))), (.g 35 false 46 (.ia 4 (.t 44) (.t 45))), (.g 35 false 47 (.fa (.t 46) 2)), (.g 35 false 48 (.ld false none (.t 47))), (.g 35 false 49 (.mv false (.t 6))), (.g 35 false 50 (.ia 2 (.t 48) (.t 49))), (.g 35 false 51 (.ld false (some 2) (.t 50))), (.g 35 false 52 (.bo .neq 4 (.t 43) (.t 51))), (.s 53 (.pk (.t 35) (.c (.bool true)) (.t 52)))]) (.cond (.t 53) 
  (.seq (.r [(.s 4 (.mv false (.c (.bool false))))]) .ret) .skip))) (.r [(.s 25 (.mv false (.t 6))), (.s 26 (.bo .add 0 (.t 25) (.c (.int .i64 1)))), (.s 6 (.mv true (.t 26)))])))
def l_ref14_Exact_1 : CC :=
  
  (.seq 
  (.seq (.r [(.s 11 (.mv false (.t 5))), (.s 12 (.mv false (.t 0))), (.s 13 (.le true (.t 12))), (.s 14 (.bo .lss 0 (.t 11) (.t 13)))]) (.cond (.t 14) .skip (.exit 0))) 
  (.seq (.block 1 
  (.seq (.r [(.s 6 (.mv false (.c (.int .i64 0))))]) (.block 2 (.loop l_ref14_Exact_0)))) (.r [(.s 15 (.mv false (.t 5))), (.s 16 (.bo .add 0 (.t 15) (.c (.int .i64 1)))), (.s 5 (.mv true (.t 16)))])))
def c_ref14_Exact (x_ref14_Same : Nat) : CF :=
  (.mk 54 
  (.seq (.r [(.s 4 (.mv false (.c (.bool false))))]) 
  (.seq 
  (.seq (.r [(.s 7 (.mv false (.t 0))), (.s 8 (.mv false (.t 1))), (.s 9 (.cl (.c (.func x_ref14_Same [] [])) [(.t 7), (.t 8)])), (.s 10 (.uo .not (.t 9)))]) (.cond (.t 10) 
  (.seq (.r [(.s 4 (.mv false (.c (.bool false))))]) .ret) .skip)) 
  (.seq 
  (.seq (.r [(.s 5 (.mv false (.c (.int .i64 0))))]) (.block 0 (.loop l_ref14_Exact_1))) 
  (.seq (.r [(.s 4 (.mv false (.c (.bool true))))]) .ret)))) [(.t 4)])
def l_law14_rows_0 (x_law14_rows : Nat) : CC :=
  
  (.seq 
  (.seq (.r [(.s 9 (.mv false (.t 6))), (.s 10 (.mv false (.t 0))), (.s 11 (.le true (.t 10))), (.s 12 (.bo .lss 0 (.t 9) (.t 11)))]) (.cond (.t 12) .skip (.exit 0))) 
  (.seq (.block 1 
  (.seq (.r [(.s 15 (.mv true (.t 5))), (.s 16 (.mv false (.t 1))), (.s 17 (.bs false 0 1 [(.str [])] [])), (.s 18 (.mv false (.t 0))), (.s 19 (.mv false (.t 6))), (.s 20 (.ia 4 (.t 18) (.t 19))), (.s 21 (.fa (.t 20) 0)), (.s 22 (.ld false none (.t 21))), (.s 23 (.ap false 1 16 (.t 17) (.t 22))), (.s 24 (.bs false 0 2 [(.int .i64 0), (.int .i64 0)] [])), (.s 25 (.mv false (.t 0))), (.s 26 (.mv false (.t 6))), (.s 27 (.ia 4 (.t 25) (.t 26))), (.s 28 (.fa (.t 27) 1)), (.s 29 (.ld false none (.t 28))), (.s 30 (.ap false 2 16 (.t 24) (.t 29))), (.s 31 (.mv false (.t 0))), (.s 32 (.mv false (.t 6))), (.s 33 (.ia 4 (.t 31) (.t 32))), (.s 34 (.fa (.t 33) 2)), (.s 35 (.ld false none (.t 34))), (.s 36 (.bd true [(.int .i64 0), (.vec true []), (.vec true []), (.bool false)] [(0, (1, (.t 16))), (1, (1, (.t 23))), (2, (1, (.t 30))), (3, (1, (.t 35)))])), (.s 37 (.bs false 1 4 [(.int .i64 0), (.vec false []), (.vec false []), (.bool false)] [(0, (.t 36))])), (.s 38 (.ap false 4 64 (.t 15) (.t 37))), (.s 5 (.mv true (.t 38)))]) (.r [(.s 39 (.mv true (.t 5))), (.s 40 (.mv false (.t 0))), (.s 41 (.mv false (.t 6))), (.s 42 (.ia 4 (.t 40) (.t 41))), (.s 43 (.fa (.t 42) 3)), (.s 44 (.ld false none (.t 43))), (.s 45 (.mv false (.t 1))), (.s 46 (.bo .add 0 (.t 45) (.c (.int .i64 1)))), (.s 47 (.cl (.c (.func x_law14_rows [] [])) [(.t 44), (.t 46)])), (.s 48 (.ap false 4 64 (.t 39) (.t 47))), (.s 5 (.mv true (.t 48)))]))) (.r [(.s 13 (.mv false (.t 6))), (.s 14 (.bo .add 0 (.t 13) (.c (.int .i64 1)))), (.s 6 (.mv true (.t 14)))])))
def c_law14_rows (x_law14_rows : Nat) : CF :=
  (.mk 50 
  (.seq (.r [(.s 4 (.mv false (.c (.vec true []))))]) 
  (.seq (.r [(.s 5 (.mv false (.c (.vec true []))))]) 
  (.seq 
  (.seq (.r [(.s 7 (.mv false (.t 1))), (.s 8 (.bo .gtr 0 (.t 7) (.c (.int .i64 60))))]) (.cond (.t 8) 
  (.seq (.r [(.s 4 (.mv false (.c (.vec true []))))]) .ret) .skip)) 
  (.seq 
  (.seq (.r [(.s 6 (.mv false (.c (.int .i64 0))))]) (.block 0 (.loop (l_law14_rows_0 x_law14_rows)))) 
  (.seq (.r [(.s 49 (.mv false (.t 5))), (.s 4 (.mv true (.t 49)))]) .ret))))) [(.t 4)])
def l_law14_spoil_0 : CC :=
  
  (.seq 
  (.seq (.r [(.s 30 (.mv false (.t 6))), (.s 31 (.mv false (.t 0))), (.s 32 (.mv false (.t 4))), (.s 33 (.ia 4 (.t 31) (.t 32))), (.s 34 (.fa (.t 33) 1)), (.s 35 (.ld false none (.t 34))), (.s 36 (.le true (.t 35))), (.s 37 (.bo .lss 0 (.t 30) (.t 36)))]) (.cond (.t 37) .skip (.exit 4))) 
  (.seq (.block 5 (.r [(.s 40 (.mv false (.t 0))), (.s 41 (.mv false (.t 4))), (.s 42 (.ia 4 (.t 40) (.t 41))), (.s 43 (.fa (.t 42) 1)), (.s 44 (.ld false none (.t 43))), (.s 45 (.mv false (.t 6))), (.s 46 (.ia 2 (.t 44) (.t 45))), (.s 47 (.fa (.t 46) 0)), (.n (.st false 1 (.t 47) (.c (.int .i64 (-1)))))])) (.r [(.s 38 (.mv false (.t 6))), (.s 39 (.bo .add 0 (.t 38) (.c (.int .i64 1)))), (.s 6 (.mv true (.t 39)))])))
def l_law14_spoil_1 : CC :=
  
  (.seq 
  (.seq (.r [(.s 13 (.mv false (.t 5))), (.s 14 (.mv false (.t 0))), (.s 15 (.mv false (.t 4))), (.s 16 (.ia 4 (.t 14) (.t 15))), (.s 17 (.fa (.t 16) 0)), (.s 18 (.ld false none (.t 17))), (.s 19 (.le true (.t 18))), (.s 20 (.bo .lss 0 (.t 13) (.t 19)))]) (.cond (.t 20) .skip (.exit 2))) 
  (.seq (.block 3 (.r [(.s 23 (.mv false (.t 0))), (.s 24 (.mv false (.t 4))), (.s 25 (.ia 4 (.t 23) (.t 24))), (.s 26 (.fa (.t 25) 0)), (.s 27 (.ld false none (.t 26))), (.s 28 (.mv false (.t 5))), (.s 29 (.ia 1 (.t 27) (.t 28))), (.n (.st false 1 (.t 29) (.c (.str [115, 112, 111, 105, 108, 116]))))])) (.r [(.s 21 (.mv false (.t 5))), (.s 22 (.bo .add 0 (.t 21) (.c (.int .i64 1)))), (.s 5 (.mv true (.t 22)))])))
def l_law14_spoil_2 (x_law14_spoil : Nat) : CC :=
  
  (.seq 
  (.seq (.r [(.s 7 (.mv false (.t 4))), (.s 8 (.mv false (.t 0))), (.s 9 (.le true (.t 8))), (.s 10 (.bo .lss 0 (.t 7) (.t 9)))]) (.cond (.t 10) .skip (.exit 0))) 
  (.seq (.block 1 
  (.seq 
  (.seq (.r [(.s 5 (.mv false (.c (.int .i64 0))))]) (.block 2 (.loop l_law14_spoil_1))) 
  (.seq 
  (.seq (.r [(.s 6 (.mv false (.c (.int .i64 0))))]) (.block 4 (.loop l_law14_spoil_0))) 
  (.seq (.r [(.s 48 (.mv false (.t 0))), (.s 49 (.mv false (.t 4))), (.s 50 (.mv false (.t 0))), (.s 51 (.mv false (.t 4))), (.s 52 (.ia 4 (.t 50) (.t 51))), (.s 53 (.fa (.t 52) 0)), (.s 54 (.ld true none (.t 53))), (.s 55 (.bs false 1 1 [(.str [])] [(0, (.c (.str [98, 101, 104, 105, 110, 100])))])), (.s 56 (.ap false 1 16 (.t 54) (.t 55))), (.s 57 (.ia 4 (.t 48) (.t 49))), (.s 58 (.fa (.t 57) 0)), (.n (.st true 1 (.t 58) (.t 56)))]) (.r [(.s 59 (.mv false (.t 3))), (.s 60 (.bo .add 0 (.t 59) (.c (.int .i64 1)))), (.s 61 (.mv false (.t 0))), (.s 62 (.mv false (.t 4))), (.s 63 (.ia 4 (.t 61) (.t 62))), (.s 64 (.fa (.t 63) 3)), (.s 65 (.ld false none (.t 64))), (.s 66 (.cl (.c (.func x_law14_spoil [] [])) [(.t 65)])), (.s 67 (.bo .add 0 (.t 60) (.t 66))), (.s 3 (.mv true (.t 67)))]))))) (.r [(.s 11 (.mv false (.t 4))), (.s 12 (.bo .add 0 (.t 11) (.c (.int .i64 1)))), (.s 4 (.mv true (.t 12)))])))
def c_law14_spoil (x_law14_spoil : Nat) : CF :=
  (.mk 69 
  (.seq (.r [(.s 2 (.mv false (.c (.int .i64 0))))]) 
  (.seq (.r [(.s 3 (.mv false (.c (.int .i64 0))))]) 
  (.seq 
  (.seq (.r [(.s 4 (.mv false (.c (.int .i64 0))))]) (.block 0 (.loop (l_law14_spoil_2 x_law14_spoil)))) 
  (.seq (.r [(.s 68 (.mv false (.t 3))), (.s 2 (.mv true (.t 68)))]) .ret)))) [(.t 2)])
def c_law14_awake (x_tree_Parse x_tree_Inherit x_tree_Print : Nat) : CF :=
  (.mk 36 
  (.seq (.r [(.s 0 (.mv false (.c (.bool false))))]) 
  (.seq (.r [(.s 9 (.cl (.c (.func x_tree_Parse [] [])) [(.c (.str [103, 114, 111, 117, 112, 115, 32, 123, 32, 103, 32, 123, 32, 101, 32, 60, 42, 62, 32, 123, 32, 99, 111, 115, 116, 32, 53, 59, 32, 117, 112, 59, 32, 125, 32, 125, 32, 125, 32, 97, 112, 112, 108, 121, 45, 103, 114, 111, 117, 112, 115, 32, 103, 59, 32, 101, 32, 120, 32, 123, 32, 99, 111, 115, 116, 32, 55, 59, 32, 125, 32, 101, 32, 121, 32, 123, 32, 125]))])), (.s 8 (.mv true (.t 9))), (.s 10 (.ex (.t 8) 0)), (.s 11 (.ex (.t 8) 1)), (.s 12 (.ex (.t 8) 2)), (.s 2 (.al [(.int .i64 0), (.int .i64 0)])), (.s 1 (.mv true (.t 10))), (.n (.st true 2 (.t 2) (.t 11))), (.s 3 (.mv true (.t 12)))]) 
  (.seq 
  (.seq (.r [(.s 13 (.mv false (.t 3))), (.s 14 (.bo .neq 0 (.t 13) (.c (.int .i64 0))))]) (.cond (.t 14) 
  (.seq (.r [(.s 0 (.mv false (.c (.bool false))))]) .ret) .skip)) 
  (.seq (.r [(.s 16 (.mv false (.t 1))), (.s 17 (.cl (.c (.func x_tree_Inherit [] [])) [(.t 16)])), (.s 15 (.mv true (.t 17))), (.s 18 (.ex (.t 15) 0)), (.s 19 (.ex (.t 15) 1)), (.s 20 (.ex (.t 15) 2)), (.s 5 (.al [(.int .i64 0), (.int .i64 0)])), (.s 4 (.mv true (.t 18))), (.n (.st true 2 (.t 5) (.t 19))), (.s 3 (.mv true (.t 20)))]) 
  (.seq (.r [(.s 22 (.mv false (.t 4))), (.s 23 (.cl (.c (.func x_tree_Print [] [])) [(.t 22)])), (.s 21 (.mv true (.t 23))), (.s 24 (.ex (.t 21) 0)), (.s 25 (.ex (.t 21) 1)), (.s 6 (.mv true (.t 24))), (.s 7 (.mv true (.t 25)))]) 
  (.seq (.r [(.s 26 (.mv false (.t 3))), (.s 27 (.bo .eql 0 (.t 26) (.c (.int .i64 0)))), (.s 28 (.mv true (.t 27))), (.g 28 true 29 (.mv false (.t 7))), (.g 28 true 30 (.bo .eql 0 (.t 29) (.c (.int .i64 0)))), (.s 31 (.pk (.t 28) (.t 30) (.c (.bool false)))), (.s 32 (.mv true (.t 31))), (.g 32 true 33 (.mv false (.t 6))), (.g 32 true 34 (.bo .eql 0 (.t 33) (.c (.str [101, 32, 120, 32, 123, 10, 32, 32, 32, 32, 99, 111, 115, 116, 32, 55, 59, 10, 32, 32, 32, 32, 117, 112, 59, 10, 125, 10, 101, 32, 121, 32, 123, 10, 32, 32, 32, 32, 99, 111, 115, 116, 32, 53, 59, 10, 32, 32, 32, 32, 117, 112, 59, 10, 125, 10])))), (.s 35 (.pk (.t 32) (.t 34) (.c (.bool false)))), (.s 0 (.mv true (.t 35)))]) .ret)))))) [(.t 0)])
def l_law14_nodes_0 : CC :=
  
  (.seq 
  (.seq (.r [(.s 15 (.mv false (.t 7))), (.s 16 (.mv false (.t 0))), (.s 17 (.le true (.t 16))), (.s 18 (.bo .lss 0 (.t 15) (.t 17))), (.s 19 (.mv true (.t 18))), (.g 19 true 20 (.mv false (.t 0))), (.g 19 true 21 (.mv false (.t 7))), (.g 19 true 22 (.ia 4 (.t 20) (.t 21))), (.g 19 true 23 (.fa (.t 22) 0)), (.g 19 true 24 (.ld false none (.t 23))), (.g 19 true 25 (.mv false (.t 1))), (.g 19 true 26 (.bo .gtr 0 (.t 24) (.t 25))), (.s 27 (.pk (.t 19) (.t 26) (.c (.bool false))))]) (.cond (.t 27) .skip (.exit 2))) (.block 3 (.r [(.s 28 (.mv false (.t 7))), (.s 29 (.bo .add 0 (.t 28) (.c (.int .i64 1)))), (.s 7 (.mv true (.t 29)))])))
def l_law14_nodes_1 (x_law14_nodes : Nat) : CC :=
  
  (.seq 
  (.seq (.r [(.s 9 (.mv false (.t 6))), (.s 10 (.mv false (.t 0))), (.s 11 (.le true (.t 10))), (.s 12 (.bo .lss 0 (.t 9) (.t 11)))]) (.cond (.t 12) .skip (.exit 0))) (.block 1 
  (.seq (.r [(.s 13 (.mv false (.t 6))), (.s 14 (.bo .add 0 (.t 13) (.c (.int .i64 1)))), (.s 7 (.mv true (.t 14)))]) 
  (.seq (.block 2 (.loop l_law14_nodes_0)) 
  (.seq (.r [(.s 30 (.bs false 0 1 [(.str [])] [])), (.s 31 (.mv false (.t 0))), (.s 32 (.mv false (.t 6))), (.s 33 (.ia 4 (.t 31) (.t 32))), (.s 34 (.fa (.t 33) 1)), (.s 35 (.ld false none (.t 34))), (.s 36 (.ap false 1 16 (.t 30) (.t 35))), (.s 37 (.bs false 0 2 [(.int .i64 0), (.int .i64 0)] [])), (.s 38 (.mv false (.t 0))), (.s 39 (.mv false (.t 6))), (.s 40 (.ia 4 (.t 38) (.t 39))), (.s 41 (.fa (.t 40) 2)), (.s 42 (.ld false none (.t 41))), (.s 43 (.ap false 2 16 (.t 37) (.t 42))), (.s 44 (.mv false (.t 0))), (.s 45 (.mv false (.t 6))), (.s 46 (.ia 4 (.t 44) (.t 45))), (.s 47 (.fa (.t 46) 3)), (.s 48 (.ld false none (.t 47))), (.s 49 (.bd true [(.vec true []), (.vec true []), (.bool false), (.vec true [])] [(0, (1, (.t 36))), (1, (1, (.t 43))), (2, (1, (.t 48)))])), (.s 8 (.al [(.vec true []), (.vec true []), (.bool false), (.vec true [])])), (.n (.st true 4 (.t 8) (.t 49)))]) 
  (.seq 
  (.seq (.r [(.s 50 (.mv false (.t 0))), (.s 51 (.mv false (.t 6))), (.s 52 (.ia 4 (.t 50) (.t 51))), (.s 53 (.fa (.t 52) 3)), (.s 54 (.ld false none (.t 53)))]) (.cond (.t 54) (.r [(.s 55 (.mv false (.t 0))), (.s 56 (.mv false (.t 6))), (.s 57 (.bo .add 0 (.t 56) (.c (.int .i64 1)))), (.s 58 (.mv false (.t 7))), (.s 59 (.sV 4 (.t 55) (some (.t 57)) (some (.t 58)))), (.s 60 (.mv false (.t 1))), (.s 61 (.bo .add 0 (.t 60) (.c (.int .i64 1)))), (.s 62 (.cl (.c (.func x_law14_nodes [] [])) [(.t 59), (.t 61)])), (.s 63 (.fa (.t 8) 3)), (.n (.st true 1 (.t 63) (.t 62)))]) .skip)) 
  (.seq (.r [(.s 64 (.mv true (.t 5))), (.s 65 (.ld false (some 4) (.t 8))), (.s 66 (.bs false 1 4 [(.vec false []), (.vec false []), (.bool false), (.vec false [])] [(0, (.t 65))])), (.s 67 (.ap false 4 80 (.t 64) (.t 66))), (.s 5 (.mv true (.t 67)))]) (.r [(.s 68 (.mv false (.t 7))), (.s 6 (.mv true (.t 68)))]))))))))
def c_law14_nodes (x_law14_nodes : Nat) : CF :=
  (.mk 70 
  (.seq (.r [(.s 4 (.mv false (.c (.vec true []))))]) 
  (.seq (.r [(.s 5 (.mv false (.c (.vec true []))))]) 
  (.seq (.r [(.s 6 (.mv false (.c (.int .i64 0))))]) 
  (.seq (.block 0 (.loop (l_law14_nodes_1 x_law14_nodes))) 
  (.seq (.r [(.s 69 (.mv false (.t 5))), (.s 4 (.mv true (.t 69)))]) .ret))))) [(.t 4)])
def l_law14_good_0 : CC :=
  
  (.seq 
  (.seq (.r [(.s 39 (.mv false (.t 7))), (.s 40 (.fa (.t 6) 1)), (.s 41 (.ld false none (.t 40))), (.s 42 (.le true (.t 41))), (.s 43 (.bo .lss 0 (.t 39) (.t 42)))]) (.cond (.t 43) .skip (.exit 2))) 
  (.seq (.block 3 (.r [(.s 46 (.fa (.t 6) 2)), (.s 47 (.ld true none (.t 46))), (.s 48 (.mv false (.t 5))), (.s 49 (.bo .add 0 (.t 48) (.c (.int .i64 1)))), (.s 50 (.mv false (.t 7))), (.s 51 (.bo .add 0 (.t 50) (.c (.int .i64 1)))), (.s 52 (.bd true [(.int .i64 0), (.int .i64 0)] [(0, (1, (.t 49))), (1, (1, (.t 51)))])), (.s 53 (.bs false 1 2 [(.int .i64 0), (.int .i64 0)] [(0, (.t 52))])), (.s 54 (.ap false 2 16 (.t 47) (.t 53))), (.s 55 (.fa (.t 6) 2)), (.n (.st true 1 (.t 55) (.t 54)))])) (.r [(.s 44 (.mv false (.t 7))), (.s 45 (.bo .add 0 (.t 44) (.c (.int .i64 1)))), (.s 7 (.mv true (.t 45)))])))
def l_law14_good_1 : CC :=
  
  (.seq 
  (.seq (.r [(.s 8 (.mv false (.t 5))), (.s 9 (.mv false (.t 0))), (.s 10 (.le true (.t 9))), (.s 11 (.bo .lss 0 (.t 8) (.t 10))), (.s 12 (.mv true (.t 11))), (.g 12 true 13 (.mv false (.t 5))), (.g 12 true 14 (.bo .lss 0 (.t 13) (.c (.int .i64 120)))), (.s 15 (.pk (.t 12) (.t 14) (.c (.bool false))))]) (.cond (.t 15) .skip (.exit 0))) 
  (.seq (.block 1 
  (.seq (.r [(.s 18 (.mv false (.t 0))), (.s 19 (.mv false (.t 5))), (.s 20 (.ia 4 (.t 18) (.t 19))), (.s 21 (.ld false (some 4) (.t 20))), (.s 6 (.al [(.int .i64 0), (.vec true []), (.vec true []), (.bool false)])), (.n (.st true 4 (.t 6) (.t 21)))]) 
  (.seq 
  (.seq (.r [(.s 22 (.fa (.t 6) 1)), (.s 23 (.ld false none (.t 22))), (.s 24 (.le true (.t 23))), (.s 25 (.bo .eql 0 (.t 24) (.c (.int .i64 0)))), (.s 26 (.mv true (.t 25))), (.g 26 false 27 (.fa (.t 6) 1)), (.g 26 false 28 (.ld false none (.t 27))), (.g 26 false 29 (.le true (.t 28))), (.g 26 false 30 (.bo .gtr 0 (.t 29) (.c (.int .i64 8)))), (.s 31 (.pk (.t 26) (.c (.bool true)) (.t 30)))]) (.cond (.t 31) (.exit 1) .skip)) 
  (.seq (.r [(.s 32 (.fa (.t 6) 0)), (.s 33 (.ld false none (.t 32))), (.s 34 (.mx (.t 33) (.c (.int .i64 0)))), (.s 35 (.mv false (.t 4))), (.s 36 (.mn (.t 34) (.t 35))), (.s 37 (.fa (.t 6) 0)), (.n (.st true 1 (.t 37) (.t 36)))]) 
  (.seq (.r [(.s 38 (.fa (.t 6) 2)), (.n (.st false 1 (.t 38) (.c (.vec true []))))]) 
  (.seq 
  (.seq (.r [(.s 7 (.mv false (.c (.int .i64 0))))]) (.block 2 (.loop l_law14_good_0))) 
  (.seq (.r [(.s 56 (.mv true (.t 3))), (.s 57 (.ld false (some 4) (.t 6))), (.s 58 (.bs false 1 4 [(.int .i64 0), (.vec false []), (.vec false []), (.bool false)] [(0, (.t 57))])), (.s 59 (.ap false 4 64 (.t 56) (.t 58))), (.s 3 (.mv true (.t 59)))]) 
  (.seq (.r [(.s 60 (.fa (.t 6) 0)), (.s 61 (.ld false none (.t 60))), (.s 4 (.mv true (.t 61)))]) 
  (.seq (.r [(.s 62 (.fa (.t 6) 3)), (.s 63 (.ld false none (.t 62))), (.s 64 (.mv true (.t 63))), (.g 64 true 65 (.mv false (.t 4))), (.g 64 true 66 (.bo .lss 0 (.t 65) (.c (.int .i64 30)))), (.s 67 (.pk (.t 64) (.t 66) (.c (.bool false))))]) (.cond (.t 67) (.r [(.s 68 (.mv false (.t 4))), (.s 69 (.bo .add 0 (.t 68) (.c (.int .i64 1)))), (.s 4 (.mv true (.t 69)))]) .skip)))))))))) (.r [(.s 16 (.mv false (.t 5))), (.s 17 (.bo .add 0 (.t 16) (.c (.int .i64 1)))), (.s 5 (.mv true (.t 17)))])))
def c_law14_good : CF :=
  (.mk 71 
  (.seq (.r [(.s 2 (.mv false (.c (.vec true []))))]) 
  (.seq (.r [(.s 3 (.mv false (.c (.vec true []))))]) 
  (.seq (.r [(.s 4 (.mv false (.c (.int .i64 0))))]) 
  (.seq 
  (.seq (.r [(.s 5 (.mv false (.c (.int .i64 0))))]) (.block 0 (.loop l_law14_good_1))) 
  (.seq (.r [(.s 70 (.mv false (.t 3))), (.s 2 (.mv true (.t 70)))]) .ret))))) [(.t 2)])
def c_tree_Same (x_slices_EqualFunc_tree_Node x_tree_Same_1 : Nat) : CF :=
  (.mk 8 
  (.seq (.r [(.s 4 (.mv false (.c (.bool false))))]) 
  (.seq (.r [(.s 5 (.mv false (.t 0))), (.s 6 (.mv false (.t 1))), (.s 7 (.cl (.c (.func x_slices_EqualFunc_tree_Node [] [])) [(.t 5), (.t 6), (.c (.func x_tree_Same_1 [] []))])), (.s 4 (.mv true (.t 7)))]) .ret)) [(.t 4)])
def l_law14_wide_0 : CC :=
  
  (.seq 
  (.seq (.r [(.s 5 (.mv false (.t 4))), (.s 6 (.mv false (.t 0))), (.s 7 (.le false (.t 6))), (.s 8 (.bo .lss 0 (.t 5) (.t 7))), (.s 9 (.mv true (.t 8))), (.g 9 true 10 (.mv false (.t 4))), (.g 9 true 11 (.bo .lss 0 (.t 10) (.c (.int .i64 40)))), (.s 12 (.pk (.t 9) (.t 11) (.c (.bool false))))]) (.cond (.t 12) .skip (.exit 0))) 
  (.seq (.block 1 
  (.seq (.r [(.s 15 (.mv false (.t 0))), (.s 16 (.mv false (.t 4))), (.s 17 (.iS (.t 15) (.t 16))), (.s 18 (.bo .rem 0 (.t 17) (.c (.int .u8 3)))), (.s 19 (.bo .eql 0 (.t 18) (.c (.int .u8 0))))]) (.cond (.t 19) (.r [(.s 20 (.mv false (.t 3))), (.s 21 (.bo .add 0 (.t 20) (.c (.str [10])))), (.s 3 (.mv true (.t 21)))]) (.r [(.s 22 (.mv false (.t 3))), (.s 23 (.bo .add 0 (.t 22) (.c (.str [32])))), (.s 3 (.mv true (.t 23)))])))) (.r [(.s 13 (.mv false (.t 4))), (.s 14 (.bo .add 0 (.t 13) (.c (.int .i64 1)))), (.s 4 (.mv true (.t 14)))])))
def c_law14_wide : CF :=
  (.mk 25 
  (.seq (.r [(.s 2 (.mv false (.c (.str []))))]) 
  (.seq (.r [(.s 3 (.mv false (.c (.str []))))]) 
  (.seq 
  (.seq (.r [(.s 4 (.mv false (.c (.int .i64 0))))]) (.block 0 (.loop l_law14_wide_0))) 
  (.seq (.r [(.s 24 (.mv false (.t 3))), (.s 2 (.mv true (.t 24)))]) .ret)))) [(.t 2)])
def l_ref14_Print_0 (x_ref14_quoted : Nat) : CC :=
  
  (.seq 
  (.seq (.r [(.s 62 (.mv false (.t 8))), (.s 63 (.mv false (.t 0))), (.s 64 (.mv false (.t 6))), (.s 65 (.ia 4 (.t 63) (.t 64))), (.s 66 (.fa (.t 65) 1)), (.s 67 (.ld false none (.t 66))), (.s 68 (.le true (.t 67))), (.s 69 (.bo .lss 0 (.t 62) (.t 68)))]) (.cond (.t 69) .skip (.exit 4))) 
  (.seq (.block 5 
  (.seq (.r [(.s 73 (.mv false (.t 0))), (.s 74 (.mv false (.t 6))), (.s 75 (.ia 4 (.t 73) (.t 74))), (.s 76 (.fa (.t 75) 1)), (.s 77 (.ld false none (.t 76))), (.s 78 (.mv false (.t 8))), (.s 79 (.ia 1 (.t 77) (.t 78))), (.s 80 (.ld false none (.t 79))), (.s 81 (.cl (.c (.func x_ref14_quoted [] [])) [(.t 80)])), (.s 72 (.mv true (.t 81))), (.s 82 (.ex (.t 72) 0)), (.s 83 (.ex (.t 72) 1)), (.s 9 (.mv true (.t 82))), (.s 10 (.mv true (.t 83)))]) 
  (.seq 
  (.seq (.r [(.s 84 (.mv false (.t 10))), (.s 85 (.uo .not (.t 84)))]) (.cond (.t 85) 
  (.seq (.r [(.s 2 (.mv false (.c (.str [])))), (.s 3 (.mv false (.c (.int .i64 1))))]) .ret) .skip)) 
  (.seq 
  (.seq (.r [(.s 86 (.mv false (.t 8))), (.s 87 (.bo .gtr 0 (.t 86) (.c (.int .i64 0))))]) (.cond (.t 87) (.r [(.s 88 (.mv false (.t 4))), (.s 89 (.bo .add 0 (.t 88) (.c (.str [32])))), (.s 4 (.mv true (.t 89)))]) .skip)) (.r [(.s 90 (.mv false (.t 4))), (.s 91 (.mv false (.t 9))), (.s 92 (.bo .add 0 (.t 90) (.t 91))), (.s 4 (.mv true (.t 92)))]))))) (.r [(.s 70 (.mv false (.t 8))), (.s 71 (.bo .add 0 (.t 70) (.c (.int .i64 1)))), (.s 8 (.mv true (.t 71)))])))
def l_ref14_Print_1 (x_ref14_blanks : Nat) : CC :=
  
  (.seq 
  (.seq (.r [(.s 26 (.mv false (.t 5))), (.s 27 (.mv false (.t 7))), (.s 28 (.bo .gtr 0 (.t 26) (.t 27)))]) (.cond (.t 28) .skip (.exit 2))) (.block 3 
  (.seq (.r [(.s 29 (.mv false (.t 5))), (.s 30 (.bo .sub 0 (.t 29) (.c (.int .i64 1)))), (.s 5 (.mv true (.t 30)))]) (.r [(.s 31 (.mv false (.t 4))), (.s 32 (.mv false (.t 5))), (.s 33 (.cl (.c (.func x_ref14_blanks [] [])) [(.t 32)])), (.s 34 (.bo .add 0 (.t 31) (.t 33))), (.s 35 (.bo .add 0 (.t 34) (.c (.str [125, 10])))), (.s 4 (.mv true (.t 35)))]))))
def l_ref14_Print_2 (x_ref14_blanks x_ref14_quoted : Nat) : CC :=
  
  (.seq 
  (.seq (.r [(.s 11 (.mv false (.t 6))), (.s 12 (.mv false (.t 0))), (.s 13 (.le true (.t 12))), (.s 14 (.bo .leq 0 (.t 11) (.t 13)))]) (.cond (.t 14) .skip (.exit 0))) 
  (.seq (.block 1 
  (.seq (.r [(.s 7 (.mv false (.c (.int .i64 0))))]) 
  (.seq 
  (.seq (.r [(.s 17 (.mv false (.t 6))), (.s 18 (.mv false (.t 0))), (.s 19 (.le true (.t 18))), (.s 20 (.bo .lss 0 (.t 17) (.t 19)))]) (.cond (.t 20) (.r [(.s 21 (.mv false (.t 0))), (.s 22 (.mv false (.t 6))), (.s 23 (.ia 4 (.t 21) (.t 22))), (.s 24 (.fa (.t 23) 0)), (.s 25 (.ld false none (.t 24))), (.s 7 (.mv true (.t 25)))]) .skip)) 
  (.seq (.block 2 (.loop (l_ref14_Print_1 x_ref14_blanks))) 
  (.seq 
  (.seq (.r [(.s 36 (.mv false (.t 6))), (.s 37 (.mv false (.t 0))), (.s 38 (.le true (.t 37))), (.s 39 (.bo .eql 0 (.t 36) (.t 38)))]) (.cond (.t 39) (.exit 0) .skip)) 
  (.seq 
  (.seq (.r [(.s 40 (.mv false (.t 0))), (.s 41 (.mv false (.t 6))), (.s 42 (.ia 4 (.t 40) (.t 41))), (.s 43 (.fa (.t 42) 1)), (.s 44 (.ld false none (.t 43))), (.s 45 (.le true (.t 44))), (.s 46 (.bo .eql 0 (.t 45) (.c (.int .i64 0)))), (.s 47 (.mv true (.t 46))), (.g 47 false 48 (.mv false (.t 0))), (.g 47 false 49 (.mv false (.t 6))), (.g 47 false 50 (.ia 4 (.t 48) (.t 49))), (.g 47 false 51 (.fa (.t 50) 3)), (.g 47 false 52 (.ld false none (.t 51))), (.g 47 false 53 (.mv true (.t 52))), (.g 53 true 54 (.mv false (.t 5))), (.g 53 true 55 (.bo .geq 0 (.t 54) (.c (.int .i64 32)))), (.g 47 false 56 (.pk (.t 53) (.t 55) (.c (.bool false)))), (.s 57 (.pk (.t 47) (.c (.bool true)) (.t 56)))]) (.cond (.t 57) 
  (.seq (.r [(.s 2 (.mv false (.c (.str [])))), (.s 3 (.mv false (.c (.int .i64 1))))]) .ret) .skip)) 
  (.seq (.r [(.s 58 (.mv false (.t 4))), (.s 59 (.mv false (.t 5))), (.s 60 (.cl (.c (.func x_ref14_blanks [] [])) [(.t 59)])), (.s 61 (.bo .add 0 (.t 58) (.t 60))), (.s 4 (.mv true (.t 61)))]) 
  (.seq 
  (.seq (.r [(.s 8 (.mv false (.c (.int .i64 0))))]) (.block 4 (.loop (l_ref14_Print_0 x_ref14_quoted)))) 
  (.seq (.r [(.s 93 (.mv false (.t 0))), (.s 94 (.mv false (.t 6))), (.s 95 (.ia 4 (.t 93) (.t 94))), (.s 96 (.fa (.t 95) 3)), (.s 97 (.ld false none (.t 96)))]) (.cond (.t 97) 
  (.seq (.r [(.s 98 (.mv false (.t 4))), (.s 99 (.bo .add 0 (.t 98) (.c (.str [32, 123, 10])))), (.s 4 (.mv true (.t 99)))]) (.r [(.s 100 (.mv false (.t 5))), (.s 101 (.bo .add 0 (.t 100) (.c (.int .i64 1)))), (.s 5 (.mv true (.t 101)))])) (.r [(.s 102 (.mv false (.t 4))), (.s 103 (.bo .add 0 (.t 102) (.c (.str [59, 10])))), (.s 4 (.mv true (.t 103)))]))))))))))) (.r [(.s 15 (.mv false (.t 6))), (.s 16 (.bo .add 0 (.t 15) (.c (.int .i64 1)))), (.s 6 (.mv true (.t 16)))])))
def c_ref14_Print (x_ref14_blanks x_ref14_quoted : Nat) : CF :=
  (.mk 105 
  (.seq (.r [(.s 2 (.mv false (.c (.str [])))), (.s 3 (.mv false (.c (.int .i64 0))))]) 
  (.seq (.r [(.s 4 (.mv false (.c (.str []))))]) 
  (.seq (.r [(.s 5 (.mv false (.c (.int .i64 0))))]) 
  (.seq 
  (.seq (.r [(.s 6 (.mv false (.c (.int .i64 0))))]) (.block 0 (.loop (l_ref14_Print_2 x_ref14_blanks x_ref14_quoted)))) 
  (.seq (.r [(.s 104 (.mv false (.t 4))), (.s 2 (.mv true (.t 104))), (.s 3 (.mv false (.c (.int .i64 0))))]) .ret))))) [(.t 2), (.t 3)])
def l_ref14_Same_0 (x_ref14_same : Nat) : CC :=
  
  (.seq 
  (.seq (.r [(.s 11 (.mv false (.t 5))), (.s 12 (.mv false (.t 0))), (.s 13 (.le true (.t 12))), (.s 14 (.bo .lss 0 (.t 11) (.t 13)))]) (.cond (.t 14) .skip (.exit 0))) 
  (.seq (.block 1 
  (.seq (.r [(.s 17 (.mv false (.t 0))), (.s 18 (.mv false (.t 5))), (.s 19 (.ia 4 (.t 17) (.t 18))), (.s 20 (.fa (.t 19) 0)), (.s 21 (.ld false none (.t 20))), (.s 22 (.mv false (.t 1))), (.s 23 (.mv false (.t 5))), (.s 24 (.ia 4 (.t 22) (.t 23))), (.s 25 (.fa (.t 24) 0)), (.s 26 (.ld false none (.t 25))), (.s 27 (.bo .neq 0 (.t 21) (.t 26))), (.s 28 (.mv true (.t 27))), (.g 28 false 29 (.mv false (.t 0))), (.g 28 false 30 (.mv false (.t 5))), (.g 28 false 31 (.ia 4 (.t 29) (.t 30))), (.g 28 false 32 (.fa (.t 31) 3)), (.g 28 false 33 (.ld false none (.t 32))), (.g 28 false 34 (.mv false (.t 1))), (.g 28 false 35 (.mv false (.t 5))), (.g 28 false 36 (.ia 4 (.t 34) (.t 35))), (.g 28 false 37 (.fa (.t 36) 3)), (.g 28 false 38 (.ld false none (.t 37))), (.g 28 false 39 (.bo .neq 3 (.t 33) (.t 38))), (.s 40 (.pk (.t 28) (.c (.bool true)) (.t 39))), (.s 41 (.mv true (.t 40))), (.g 41 false 42 (.mv false (.t 0))), (.g 41 false 43 (.mv false (.t 5))), (.g 41 false 44 (.ia 4 (.t 42) (.t 43))), (.g 41 false 45 (.fa (.t 44) 1)), (.g 41 false 46 (.ld false none (.t 45))), (.g 41 false 47 (.mv false (.t 1))), (.g 41 false 48 (.mv false (.t 5))), (.g 41 false 49 (.ia 4 (.t 47) (.t 48))), (.g 41 false 50 (.fa (.t 49) 1)), (.g 41 false 51 (.ld false none (.t 50))), (.g 41 false 52 (.cl (.c (.func x_ref14_same [] [])) [(.t 46), (.t 51)])), (.g 41 false 53 (.uo .not (.t 52))), (.s 54 (.pk (.t 41) (.c (.bool true)) (.t 53)))]) (.cond (.t 54) 
  (.seq (.r [(.s 4 (.mv false (.c (.bool false))))]) .ret) .skip))) (.r [(.s 15 (.mv false (.t 5))), (.s 16 (.bo .add 0 (.t 15) (.c (.int .i64 1)))), (.s 5 (.mv true (.t 16)))])))
def c_ref14_Same (x_ref14_same : Nat) : CF :=
  (.mk 55 
  (.seq (.r [(.s 4 (.mv false (.c (.bool false))))]) 
  (.seq 
  (.seq (.r [(.s 6 (.mv false (.t 0))), (.s 7 (.le true (.t 6))), (.s 8 (.mv false (.t 1))), (.s 9 (.le true (.t 8))), (.s 10 (.bo .neq 0 (.t 7) (.t 9)))]) (.cond (.t 10) 
  (.seq (.r [(.s 4 (.mv false (.c (.bool false))))]) .ret) .skip)) 
  (.seq 
  (.seq (.r [(.s 5 (.mv false (.c (.int .i64 0))))]) (.block 0 (.loop (l_ref14_Same_0 x_ref14_same)))) 
  (.seq (.r [(.s 4 (.mv false (.c (.bool true))))]) .ret)))) [(.t 4)])
def l_law14_same_0 : CC :=
  
  (.seq 
  (.seq (.r [(.s 11 (.mv false (.t 5))), (.s 12 (.mv false (.t 0))), (.s 13 (.le true (.t 12))), (.s 14 (.bo .lss 0 (.t 11) (.t 13)))]) (.cond (.t 14) .skip (.exit 0))) 
  (.seq (.block 1 
  (.seq (.r [(.s 17 (.mv false (.t 0))), (.s 18 (.mv false (.t 5))), (.s 19 (.ia 1 (.t 17) (.t 18))), (.s 20 (.ld false none (.t 19))), (.s 21 (.mv false (.t 1))), (.s 22 (.mv false (.t 5))), (.s 23 (.ia 1 (.t 21) (.t 22))), (.s 24 (.ld false none (.t 23))), (.s 25 (.bo .neq 0 (.t 20) (.t 24)))]) (.cond (.t 25) 
  (.seq (.r [(.s 4 (.mv false (.c (.bool false))))]) .ret) .skip))) (.r [(.s 15 (.mv false (.t 5))), (.s 16 (.bo .add 0 (.t 15) (.c (.int .i64 1)))), (.s 5 (.mv true (.t 16)))])))
def c_law14_same : CF :=
  (.mk 26 
  (.seq (.r [(.s 4 (.mv false (.c (.bool false))))]) 
  (.seq 
  (.seq (.r [(.s 6 (.mv false (.t 0))), (.s 7 (.le true (.t 6))), (.s 8 (.mv false (.t 1))), (.s 9 (.le true (.t 8))), (.s 10 (.bo .neq 0 (.t 7) (.t 9)))]) (.cond (.t 10) 
  (.seq (.r [(.s 4 (.mv false (.c (.bool false))))]) .ret) .skip)) 
  (.seq 
  (.seq (.r [(.s 5 (.mv false (.c (.int .i64 0))))]) (.block 0 (.loop l_law14_same_0))) 
  (.seq (.r [(.s 4 (.mv false (.c (.bool true))))]) .ret)))) [(.t 4)])
def l_lex_Tokens_0 (x_lex_reader_token : Nat) : CC :=
  
  (.seq 
  (.seq (.r [(.s 25 (.mv false (.t 8))), (.s 26 (.nc (.t 25))), (.s 27 (.fa (.t 26) 0)), (.s 28 (.ld false none (.t 27))), (.s 29 (.bo .neq 0 (.t 28) (.c (.str []))))]) (.cond (.t 29) .skip (.exit 0))) (.block 1 
  (.seq (.r [(.s 31 (.mv false (.t 8))), (.s 32 (.cl (.c (.func x_lex_reader_token [] [])) [(.t 31)])), (.s 30 (.mv true (.t 32))), (.s 33 (.ex (.t 30) 0)), (.s 34 (.ex (.t 30) 1)), (.s 35 (.ex (.t 30) 2)), (.s 9 (.al [(.int .u8 0), (.str []), (.int .i64 0), (.int .i64 0)])), (.n (.st true 4 (.t 9) (.t 33))), (.s 10 (.mv true (.t 34))), (.s 11 (.mv true (.t 35)))]) 
  (.seq 
  (.seq (.r [(.s 36 (.mv false (.t 11))), (.s 37 (.bo .neq 0 (.t 36) (.c (.int .i64 0))))]) (.cond (.t 37) 
  (.seq (.r [(.s 38 (.fa (.t 9) 2)), (.s 39 (.ld false (some 2) (.t 38))), (.s 40 (.mv false (.t 11))), (.s 2 (.mv false (.c (.vec true [])))), (.n (.st true 2 (.t 3) (.t 39))), (.s 4 (.mv true (.t 40)))]) .ret) .skip)) 
  (.seq (.r [(.s 41 (.mv false (.t 10)))]) (.cond (.t 41) (.r [(.s 42 (.mv true (.t 7))), (.s 43 (.ld false (some 4) (.t 9))), (.s 44 (.bs false 1 4 [(.int .u8 0), (.str []), (.int .i64 0), (.int .i64 0)] [(0, (.t 43))])), (.s 45 (.ap false 4 40 (.t 42) (.t 44))), (.s 7 (.mv true (.t 45)))]) .skip))))))
def c_lex_Tokens (x_lex_check x_lex_reader_token : Nat) : CF :=
  (.mk 48 
  (.seq (.r [(.s 2 (.mv false (.c (.vec true [])))), (.s 3 (.al [(.int .i64 0), (.int .i64 0)])), (.s 4 (.mv false (.c (.int .i64 0))))]) 
  (.seq 
  (.seq (.r [(.s 13 (.mv false (.t 0))), (.s 14 (.cl (.c (.func x_lex_check [] [])) [(.t 13)])), (.s 12 (.mv true (.t 14))), (.s 15 (.ex (.t 12) 0)), (.s 16 (.ex (.t 12) 1)), (.s 5 (.al [(.int .i64 0), (.int .i64 0)])), (.n (.st true 2 (.t 5) (.t 15))), (.s 6 (.mv true (.t 16)))]) 
  (.seq (.r [(.s 17 (.mv false (.t 6))), (.s 18 (.bo .neq 0 (.t 17) (.c (.int .i64 0))))]) (.cond (.t 18) 
  (.seq (.r [(.s 19 (.ld false (some 2) (.t 5))), (.s 20 (.mv false (.t 6))), (.s 2 (.mv false (.c (.vec true [])))), (.n (.st true 2 (.t 3) (.t 19))), (.s 4 (.mv true (.t 20)))]) .ret) .skip))) 
  (.seq (.r [(.s 7 (.mv false (.c (.vec true []))))]) 
  (.seq (.r [(.s 21 (.mv false (.t 0))), (.s 22 (.bd true [(.int .i64 0), (.int .i64 0)] [(0, (1, (.c (.int .i64 1)))), (1, (1, (.c (.int .i64 1))))])), (.s 23 (.bd true [(.str []), (.int .i64 0), (.int .i64 0)] [(0, (1, (.t 21))), (1, (2, (.t 22)))])), (.s 24 (.bx true (.t 23))), (.s 8 (.mv true (.t 24)))]) 
  (.seq (.block 0 (.loop (l_lex_Tokens_0 x_lex_reader_token))) 
  (.seq (.r [(.s 46 (.mv false (.t 7))), (.s 47 (.bd true [(.int .i64 0), (.int .i64 0)] [])), (.s 2 (.mv true (.t 46))), (.n (.st true 2 (.t 3) (.t 47))), (.s 4 (.mv false (.c (.int .i64 0))))]) .ret)))))) [(.t 2), (.c 3 (some 2)), (.t 4)])
def l_tree_reader_list_0 (x_tree_reader_next x_tree_reader_fail x_tree_reader_off x_tree_reader_statement : Nat) : CC :=
  
  (.seq 
  (.seq (.r [(.s 8 (.mv false (.t 0))), (.s 9 (.nc (.t 8))), (.s 10 (.fa (.t 9) 1)), (.s 11 (.ld false none (.t 10))), (.s 12 (.bo .eql 0 (.t 11) (.c (.int .i64 0))))]) (.cond (.t 12) .skip (.exit 0))) (.block 1 
  (.seq (.r [(.s 13 (.mv false (.t 0))), (.s 14 (.cl (.c (.func x_tree_reader_next [] [])) [(.t 13)]))]) (.block 2 
  (.seq (.r [(.s 25 (.bo .eql 0 (.t 14) (.c (.int .u8 0)))), (.s 24 (.mv true (.t 25)))]) (.cond (.t 24) 
  (.seq 
  (.seq (.r [(.s 26 (.mv false (.t 1))), (.s 27 (.bo .gtr 0 (.t 26) (.c (.int .i64 0))))]) (.cond (.t 27) (.r [(.s 28 (.mv false (.t 0))), (.s 29 (.ld false (some 2) (.t 5))), (.s 30 (.cl (.c (.func x_tree_reader_fail [] [])) [(.t 28), (.c (.int .i64 71)), (.t 29)]))]) .skip)) 
  (.seq (.r [(.s 31 (.mv false (.t 7))), (.s 6 (.mv true (.t 31)))]) .ret)) 
  (.seq (.r [(.s 33 (.bo .eql 0 (.t 14) (.c (.int .u8 3)))), (.s 32 (.mv true (.t 33)))]) (.cond (.t 32) 
  (.seq 
  (.seq (.r [(.s 34 (.mv false (.t 1))), (.s 35 (.bo .gtr 0 (.t 34) (.c (.int .i64 0))))]) (.cond (.t 35) 
  (.seq (.r [(.s 36 (.mv false (.t 0))), (.s 37 (.cl (.c (.func x_tree_reader_off [] [])) [(.t 36)]))]) 
  (.seq (.r [(.s 38 (.mv false (.t 7))), (.s 6 (.mv true (.t 38)))]) .ret)) .skip)) (.r [(.s 39 (.mv false (.t 0))), (.s 40 (.mv false (.t 0))), (.s 41 (.nc (.t 40))), (.s 42 (.fa (.t 41) 0)), (.s 43 (.ld false none (.t 42))), (.s 44 (.ia 4 (.t 43) (.c (.int .i64 0)))), (.s 45 (.fa (.t 44) 2)), (.s 46 (.ld false (some 2) (.t 45))), (.s 47 (.cl (.c (.func x_tree_reader_fail [] [])) [(.t 39), (.c (.int .i64 130)), (.t 46)]))])) 
  (.seq (.r [(.s 49 (.bo .eql 0 (.t 14) (.c (.int .u8 1)))), (.s 48 (.mv true (.t 49)))]) (.cond (.t 48) (.r [(.s 50 (.mv true (.t 7))), (.s 51 (.mv false (.t 0))), (.s 52 (.mv false (.t 1))), (.s 53 (.cl (.c (.func x_tree_reader_statement [] [])) [(.t 51), (.t 52)])), (.s 54 (.ap false 4 80 (.t 50) (.t 53))), (.s 7 (.mv true (.t 54)))]) (.r [(.s 15 (.mv false (.t 0))), (.s 16 (.mv false (.t 0))), (.s 17 (.nc (.t 16))), (.s 18 (.fa (.t 17) 0)), (.s 19 (.ld false none (.t 18))), (.s 20 (.ia 4 (.t 19) (.c (.int .i64 0)))), (.s 21 (.fa (.t 20) 2)), (.s 22 (.ld false (some 2) (.t 21))), (.s 23 (.cl (.c (.func x_tree_reader_fail [] [])) [(.t 15), (.c (.int .i64 130)), (.t 22)]))])))))))))))
def c_tree_reader_list (x_tree_reader_next x_tree_reader_fail x_tree_reader_off x_tree_reader_statement : Nat) : CF :=
  (.mk 56 
  (.seq (.r [(.s 5 (.bx false (.t 2))), (.s 6 (.mv false (.c (.vec true []))))]) 
  (.seq (.r [(.s 7 (.mv false (.c (.vec true []))))]) 
  (.seq (.block 0 (.loop (l_tree_reader_list_0 x_tree_reader_next x_tree_reader_fail x_tree_reader_off x_tree_reader_statement))) 
  (.seq (.r [(.s 55 (.mv false (.t 7))), (.s 6 (.mv true (.t 55)))]) .ret)))) [(.t 6)])
def l_tree_write_0 (x_tree_quoted : Nat) : CC :=
  
  (.seq (.r [(.s 48 (.bo .lss 0 (.t 47) (.t 46)))]) 
  (.seq (.cond (.t 48) .skip (.exit 2)) 
  (.seq (.block 3 
  (.seq (.r [(.s 49 (.ia 1 (.t 45) (.t 47))), (.s 50 (.ld false none (.t 49))), (.s 11 (.mv true (.t 50)))]) 
  (.seq (.r [(.s 52 (.mv false (.t 11))), (.s 53 (.cl (.c (.func x_tree_quoted [] [])) [(.t 52)])), (.s 51 (.mv true (.t 53))), (.s 54 (.ex (.t 51) 0)), (.s 55 (.ex (.t 51) 1)), (.s 12 (.mv true (.t 54))), (.s 13 (.mv true (.t 55)))]) 
  (.seq 
  (.seq (.r [(.s 56 (.mv false (.t 13))), (.s 57 (.uo .not (.t 56)))]) (.cond (.t 57) 
  (.seq (.r [(.s 6 (.mv false (.c (.bool false))))]) .ret) .skip)) (.r [(.s 58 (.mv true (.t 9))), (.s 59 (.mv false (.t 12))), (.s 60 (.bs false 1 1 [(.str [])] [(0, (.t 59))])), (.s 61 (.ap false 1 16 (.t 58) (.t 60))), (.s 9 (.mv true (.t 61)))]))))) (.r [(.s 62 (.bo .add 0 (.t 47) (.c (.int .i64 1)))), (.s 47 (.mv true (.t 62)))]))))
def l_tree_write_1 (x_tree_quoted x_strings_Repeat x_strings_Join x_strings_Builder_WriteString x_tree_write : Nat) : CC :=
  
  (.seq (.r [(.s 18 (.bo .lss 0 (.t 17) (.t 16)))]) 
  (.seq (.cond (.t 18) .skip (.exit 0)) 
  (.seq (.block 1 
  (.seq (.r [(.s 19 (.ia 4 (.t 15) (.t 17))), (.s 20 (.ld false (some 4) (.t 19))), (.s 8 (.al [(.vec true []), (.vec true []), (.bool false), (.vec true [])])), (.n (.st true 4 (.t 8) (.t 20)))]) 
  (.seq 
  (.seq (.r [(.s 21 (.fa (.t 8) 0)), (.s 22 (.ld false none (.t 21))), (.s 23 (.le true (.t 22))), (.s 24 (.bo .eql 0 (.t 23) (.c (.int .i64 0)))), (.s 25 (.mv true (.t 24))), (.g 25 false 26 (.fa (.t 8) 2)), (.g 25 false 27 (.ld false none (.t 26))), (.g 25 false 28 (.uo .not (.t 27))), (.g 25 false 29 (.mv true (.t 28))), (.g 29 true 30 (.fa (.t 8) 3)), (.g 29 true 31 (.ld false none (.t 30))), (.g 29 true 32 (.le true (.t 31))), (.g 29 true 33 (.bo .gtr 0 (.t 32) (.c (.int .i64 0)))), (.g 25 false 34 (.pk (.t 29) (.t 33) (.c (.bool false)))), (.s 35 (.pk (.t 25) (.c (.bool true)) (.t 34))), (.s 36 (.mv true (.t 35))), (.g 36 false 37 (.fa (.t 8) 2)), (.g 36 false 38 (.ld false none (.t 37))), (.g 36 false 39 (.mv true (.t 38))), (.g 39 true 40 (.mv false (.t 2))), (.g 39 true 41 (.bo .geq 0 (.t 40) (.c (.int .i64 32)))), (.g 36 false 42 (.pk (.t 39) (.t 41) (.c (.bool false)))), (.s 43 (.pk (.t 36) (.c (.bool true)) (.t 42)))]) (.cond (.t 43) 
  (.seq (.r [(.s 6 (.mv false (.c (.bool false))))]) .ret) .skip)) 
  (.seq (.r [(.s 9 (.mv false (.c (.vec true []))))]) 
  (.seq 
  (.seq (.r [(.s 44 (.fa (.t 8) 0)), (.s 45 (.ld false none (.t 44))), (.s 46 (.le true (.t 45))), (.s 47 (.mv false (.c (.int .i64 0))))]) (.block 2 (.loop (l_tree_write_0 x_tree_quoted)))) 
  (.seq (.r [(.s 63 (.mv false (.t 2))), (.s 64 (.cl (.c (.func x_strings_Repeat [] [])) [(.c (.str [32, 32, 32, 32])), (.t 63)])), (.s 14 (.mv true (.t 64)))]) 
  (.seq (.r [(.s 65 (.mv false (.t 0))), (.s 66 (.mv false (.t 14))), (.s 67 (.mv false (.t 9))), (.s 68 (.cl (.c (.func x_strings_Join [] [])) [(.t 67), (.c (.str [32]))])), (.s 69 (.bo .add 0 (.t 66) (.t 68))), (.s 70 (.cl (.c (.func x_strings_Builder_WriteString [] [])) [(.t 65), (.t 69)]))]) 
  (.seq 
  (.seq (.r [(.s 71 (.fa (.t 8) 2)), (.s 72 (.ld false none (.t 71))), (.s 73 (.uo .not (.t 72)))]) (.cond (.t 73) 
  (.seq (.r [(.s 74 (.mv false (.t 0))), (.s 75 (.cl (.c (.func x_strings_Builder_WriteString [] [])) [(.t 74), (.c (.str [59, 10]))]))]) (.exit 1)) .skip)) 
  (.seq (.r [(.s 76 (.mv false (.t 0))), (.s 77 (.cl (.c (.func x_strings_Builder_WriteString [] [])) [(.t 76), (.c (.str [32, 123, 10]))]))]) 
  (.seq 
  (.seq (.r [(.s 78 (.mv false (.t 0))), (.s 79 (.fa (.t 8) 3)), (.s 80 (.ld false none (.t 79))), (.s 81 (.mv false (.t 2))), (.s 82 (.bo .add 0 (.t 81) (.c (.int .i64 1)))), (.s 83 (.cl (.c (.func x_tree_write [] [])) [(.t 78), (.t 80), (.t 82)])), (.s 84 (.uo .not (.t 83)))]) (.cond (.t 84) 
  (.seq (.r [(.s 6 (.mv false (.c (.bool false))))]) .ret) .skip)) (.r [(.s 85 (.mv false (.t 0))), (.s 86 (.mv false (.t 14))), (.s 87 (.bo .add 0 (.t 86) (.c (.str [125, 10])))), (.s 88 (.cl (.c (.func x_strings_Builder_WriteString [] [])) [(.t 85), (.t 87)]))]))))))))))) (.r [(.s 89 (.bo .add 0 (.t 17) (.c (.int .i64 1)))), (.s 17 (.mv true (.t 89)))]))))
def c_tree_write (x_tree_quoted x_strings_Repeat x_strings_Join x_strings_Builder_WriteString x_tree_write : Nat) : CF :=
  (.mk 90 
  (.seq (.r [(.s 6 (.mv false (.c (.bool false))))]) 
  (.seq 
  (.seq (.r [(.s 15 (.mv false (.t 1))), (.s 16 (.le true (.t 15))), (.s 17 (.mv false (.c (.int .i64 0))))]) (.block 0 (.loop (l_tree_write_1 x_tree_quoted x_strings_Repeat x_strings_Join x_strings_Builder_WriteString x_tree_write)))) 
  (.seq (.r [(.s 6 (.mv false (.c (.bool true))))]) .ret))) [(.t 6)])
def l_slices_Equal_string_0 : CC :=
  
  (.seq (.r [(.s 14 (.bo .lss 0 (.t 13) (.t 12)))]) 
  (.seq (.cond (.t 14) .skip (.exit 0)) 
  (.seq (.block 1 
  (.seq (.r [(.s 15 (.mv false (.t 13))), (.s 5 (.mv true (.t 15)))]) 
  (.seq (.r [(.s 16 (.mv false (.t 0))), (.s 17 (.mv false (.t 5))), (.s 18 (.ia 1 (.t 16) (.t 17))), (.s 19 (.ld false none (.t 18))), (.s 20 (.mv false (.t 1))), (.s 21 (.mv false (.t 5))), (.s 22 (.ia 1 (.t 20) (.t 21))), (.s 23 (.ld false none (.t 22))), (.s 24 (.bo .neq 0 (.t 19) (.t 23)))]) (.cond (.t 24) 
  (.seq (.r [(.s 4 (.mv false (.c (.bool false))))]) .ret) .skip)))) (.r [(.s 25 (.bo .add 0 (.t 13) (.c (.int .i64 1)))), (.s 13 (.mv true (.t 25)))]))))
def c_slices_Equal_string : CF :=
  (.mk 26 
  (.seq (.r [(.s 4 (.mv false (.c (.bool false))))]) 
  (.seq 
  (.seq (.r [(.s 6 (.mv false (.t 0))), (.s 7 (.le true (.t 6))), (.s 8 (.mv false (.t 1))), (.s 9 (.le true (.t 8))), (.s 10 (.bo .neq 0 (.t 7) (.t 9)))]) (.cond (.t 10) 
  (.seq (.r [(.s 4 (.mv false (.c (.bool false))))]) .ret) .skip)) 
  (.seq 
  (.seq (.r [(.s 11 (.mv false (.t 0))), (.s 12 (.le true (.t 11))), (.s 13 (.mv false (.c (.int .i64 0))))]) (.block 0 (.loop l_slices_Equal_string_0))) 
  (.seq (.r [(.s 4 (.mv false (.c (.bool true))))]) .ret)))) [(.t 4)])
def l_tree_twins_0 (x_tree_twin : Nat) : CC :=
  
  (.seq (.r [(.s 9 (.bo .lss 0 (.t 8) (.t 7)))]) 
  (.seq (.cond (.t 9) .skip (.exit 0)) 
  (.seq (.block 1 
  (.seq (.r [(.s 10 (.ia 4 (.t 6) (.t 8))), (.s 11 (.ld false (some 4) (.t 10))), (.s 5 (.al [(.vec true []), (.vec true []), (.bool false), (.vec true [])])), (.n (.st true 4 (.t 5) (.t 11)))]) (.r [(.s 12 (.mv true (.t 3))), (.s 13 (.ld false (some 4) (.t 5))), (.s 14 (.cl (.c (.func x_tree_twin [] [])) [(.t 13)])), (.s 15 (.bs false 1 4 [(.vec false []), (.vec false []), (.bool false), (.vec false [])] [(0, (.t 14))])), (.s 16 (.ap false 4 80 (.t 12) (.t 15))), (.s 3 (.mv true (.t 16)))]))) (.r [(.s 17 (.bo .add 0 (.t 8) (.c (.int .i64 1)))), (.s 8 (.mv true (.t 17)))]))))
def c_tree_twins (x_tree_twin : Nat) : CF :=
  (.mk 19 
  (.seq (.r [(.s 2 (.mv false (.c (.vec true []))))]) 
  (.seq (.r [(.s 3 (.mv false (.c (.vec true []))))]) 
  (.seq 
  (.seq (.r [(.s 6 (.mv false (.t 0))), (.s 7 (.le true (.t 6))), (.s 8 (.mv false (.c (.int .i64 0))))]) (.block 0 (.loop (l_tree_twins_0 x_tree_twin)))) 
  (.seq (.r [(.s 18 (.mv false (.t 3))), (.s 2 (.mv true (.t 18)))]) .ret)))) [(.t 2)])
def l_slices_IndexFunc_tree_Node_0 : CC :=
  
  (.seq (.r [(.s 9 (.bo .lss 0 (.t 8) (.t 7)))]) 
  (.seq (.cond (.t 9) .skip (.exit 0)) 
  (.seq (.block 1 
  (.seq (.r [(.s 10 (.mv false (.t 8))), (.s 5 (.mv true (.t 10)))]) 
  (.seq (.r [(.s 11 (.mv false (.t 1))), (.s 12 (.mv false (.t 0))), (.s 13 (.mv false (.t 5))), (.s 14 (.ia 4 (.t 12) (.t 13))), (.s 15 (.ld false (some 4) (.t 14))), (.s 16 (.cl (.t 11) [(.t 15)]))]) (.cond (.t 16) 
  (.seq (.r [(.s 17 (.mv false (.t 5))), (.s 4 (.mv true (.t 17)))]) .ret) .skip)))) (.r [(.s 18 (.bo .add 0 (.t 8) (.c (.int .i64 1)))), (.s 8 (.mv true (.t 18)))]))))
def c_slices_IndexFunc_tree_Node : CF :=
  (.mk 19 
  (.seq (.r [(.s 4 (.mv false (.c (.int .i64 0))))]) 
  (.seq 
  (.seq (.r [(.s 6 (.mv false (.t 0))), (.s 7 (.le true (.t 6))), (.s 8 (.mv false (.c (.int .i64 0))))]) (.block 0 (.loop l_slices_IndexFunc_tree_Node_0))) 
  (.seq (.r [(.s 4 (.mv false (.c (.int .i64 (-1)))))]) .ret))) [(.t 4)])
def c_tree_Merge_1 (x_slices_Equal_string : Nat) : CF :=
  (.mk 16 
  (.seq (.r [(.s 2 (.bx false (.t 0))), (.s 3 (.mv false (.c (.bool false))))]) 
  (.seq (.r [(.s 4 (.fa (.t 2) 2)), (.s 5 (.ld false none (.t 4))), (.s 6 (.fa (.t 1) 2)), (.s 7 (.ld false none (.t 6))), (.s 8 (.bo .eql 3 (.t 5) (.t 7))), (.s 9 (.mv true (.t 8))), (.g 9 true 10 (.fa (.t 2) 0)), (.g 9 true 11 (.ld false none (.t 10))), (.g 9 true 12 (.fa (.t 1) 0)), (.g 9 true 13 (.ld false none (.t 12))), (.g 9 true 14 (.cl (.c (.func x_slices_Equal_string [] [])) [(.t 11), (.t 13)])), (.s 15 (.pk (.t 9) (.t 14) (.c (.bool false)))), (.s 3 (.mv true (.t 15)))]) .ret)) [(.t 3)])
def c_tree_twin (x_slices_Clone_string x_slices_Clone_api_Pos x_tree_twins : Nat) : CF :=
  (.mk 16 
  (.seq (.r [(.s 1 (.bx false (.t 0))), (.s 2 (.al [(.vec true []), (.vec true []), (.bool false), (.vec true [])]))]) 
  (.seq (.r [(.s 3 (.fa (.t 1) 0)), (.s 4 (.ld false none (.t 3))), (.s 5 (.cl (.c (.func x_slices_Clone_string [] [])) [(.t 4)])), (.s 6 (.fa (.t 1) 1)), (.s 7 (.ld false none (.t 6))), (.s 8 (.cl (.c (.func x_slices_Clone_api_Pos [] [])) [(.t 7)])), (.s 9 (.fa (.t 1) 3)), (.s 10 (.ld false none (.t 9))), (.s 11 (.cl (.c (.func x_tree_twins [] [])) [(.t 10)])), (.s 12 (.fa (.t 1) 0)), (.n (.st true 1 (.t 12) (.t 5))), (.s 13 (.fa (.t 1) 1)), (.n (.st true 1 (.t 13) (.t 8))), (.s 14 (.fa (.t 1) 3)), (.n (.st true 1 (.t 14) (.t 11)))]) 
  (.seq (.r [(.s 15 (.ld false (some 4) (.t 1))), (.n (.st true 4 (.t 2) (.t 15)))]) .ret))) [(.c 2 (some 4))])
def l_ref07_Tokens_0 (x_ref07_begins x_ref07_sign : Nat) : CC :=
  
  (.seq 
  (.seq (.r [(.s 111 (.mv false (.t 8))), (.s 112 (.mv false (.t 0))), (.s 113 (.le false (.t 112))), (.s 114 (.bo .lss 0 (.t 111) (.t 113))), (.s 115 (.mv true (.t 114))), (.g 115 true 116 (.mv false (.t 0))), (.g 115 true 117 (.mv false (.t 8))), (.g 115 true 118 (.iS (.t 116) (.t 117))), (.g 115 true 119 (.bo .neq 0 (.t 118) (.c (.int .u8 32)))), (.s 120 (.pk (.t 115) (.t 119) (.c (.bool false)))), (.s 121 (.mv true (.t 120))), (.g 121 true 122 (.mv false (.t 0))), (.g 121 true 123 (.mv false (.t 8))), (.g 121 true 124 (.iS (.t 122) (.t 123))), (.g 121 true 125 (.bo .neq 0 (.t 124) (.c (.int .u8 10)))), (.s 126 (.pk (.t 121) (.t 125) (.c (.bool false)))), (.s 127 (.mv true (.t 126))), (.g 127 true 128 (.mv false (.t 0))), (.g 127 true 129 (.mv false (.t 8))), (.g 127 true 130 (.iS (.t 128) (.t 129))), (.g 127 true 131 (.bo .neq 0 (.t 130) (.c (.int .u8 34)))), (.s 132 (.pk (.t 127) (.t 131) (.c (.bool false)))), (.s 133 (.mv true (.t 132))), (.g 133 true 134 (.mv false (.t 0))), (.g 133 true 135 (.mv false (.t 8))), (.g 133 true 136 (.iS (.t 134) (.t 135))), (.g 133 true 137 (.bo .neq 0 (.t 136) (.c (.int .u8 35)))), (.s 138 (.pk (.t 133) (.t 137) (.c (.bool false)))), (.s 139 (.mv true (.t 138))), (.g 139 true 140 (.mv false (.t 0))), (.g 139 true 141 (.mv false (.t 8))), (.g 139 true 142 (.iS (.t 140) (.t 141))), (.g 139 true 143 (.cl (.c (.func x_ref07_sign [] [])) [(.t 142)])), (.g 139 true 144 (.bo .eql 0 (.t 143) (.c (.int .u8 0)))), (.s 145 (.pk (.t 139) (.t 144) (.c (.bool false)))), (.s 146 (.mv true (.t 145))), (.g 146 true 147 (.mv false (.t 0))), (.g 146 true 148 (.mv false (.t 8))), (.g 146 true 149 (.cl (.c (.func x_ref07_begins [] [])) [(.t 147), (.t 148)])), (.g 146 true 150 (.uo .not (.t 149))), (.s 151 (.pk (.t 146) (.t 150) (.c (.bool false))))]) (.cond (.t 151) .skip (.exit 4))) (.block 5 (.r [(.s 152 (.mv false (.t 8))), (.s 153 (.bo .add 0 (.t 152) (.c (.int .i64 1)))), (.s 8 (.mv true (.t 153)))])))
def l_ref07_Tokens_1 : CC :=
  
  (.seq 
  (.seq (.r [(.s 40 (.mv false (.t 8))), (.s 41 (.mv false (.t 0))), (.s 42 (.le false (.t 41))), (.s 43 (.bo .lss 0 (.t 40) (.t 42))), (.s 44 (.mv true (.t 43))), (.g 44 true 45 (.mv false (.t 0))), (.g 44 true 46 (.mv false (.t 8))), (.g 44 true 47 (.iS (.t 45) (.t 46))), (.g 44 true 48 (.bo .neq 0 (.t 47) (.c (.int .u8 10)))), (.s 49 (.pk (.t 44) (.t 48) (.c (.bool false))))]) (.cond (.t 49) .skip (.exit 2))) (.block 3 (.r [(.s 50 (.mv false (.t 8))), (.s 51 (.bo .add 0 (.t 50) (.c (.int .i64 1)))), (.s 8 (.mv true (.t 51)))])))
def l_ref07_Tokens_2 (x_ref07_begins x_ref07_closed x_ref07_at x_ref07_sign : Nat) : CC :=
  
  (.seq 
  (.seq (.r [(.s 20 (.mv false (.t 8))), (.s 21 (.mv false (.t 0))), (.s 22 (.le false (.t 21))), (.s 23 (.bo .lss 0 (.t 20) (.t 22)))]) (.cond (.t 23) .skip (.exit 0))) (.block 1 
  (.seq 
  (.seq (.r [(.s 24 (.mv false (.t 0))), (.s 25 (.mv false (.t 8))), (.s 26 (.iS (.t 24) (.t 25))), (.s 27 (.bo .eql 0 (.t 26) (.c (.int .u8 32)))), (.s 28 (.mv true (.t 27))), (.g 28 false 29 (.mv false (.t 0))), (.g 28 false 30 (.mv false (.t 8))), (.g 28 false 31 (.iS (.t 29) (.t 30))), (.g 28 false 32 (.bo .eql 0 (.t 31) (.c (.int .u8 10)))), (.s 33 (.pk (.t 28) (.c (.bool true)) (.t 32)))]) (.cond (.t 33) 
  (.seq (.r [(.s 34 (.mv false (.t 8))), (.s 35 (.bo .add 0 (.t 34) (.c (.int .i64 1)))), (.s 8 (.mv true (.t 35)))]) (.exit 1)) .skip)) 
  (.seq 
  (.seq (.r [(.s 36 (.mv false (.t 0))), (.s 37 (.mv false (.t 8))), (.s 38 (.iS (.t 36) (.t 37))), (.s 39 (.bo .eql 0 (.t 38) (.c (.int .u8 35))))]) (.cond (.t 39) 
  (.seq (.block 2 (.loop l_ref07_Tokens_1)) (.exit 1)) .skip)) 
  (.seq 
  (.seq (.r [(.s 52 (.mv false (.t 0))), (.s 53 (.mv false (.t 8))), (.s 54 (.cl (.c (.func x_ref07_begins [] [])) [(.t 52), (.t 53)])), (.s 55 (.mv true (.t 54))), (.g 55 false 56 (.mv false (.t 0))), (.g 55 false 57 (.mv false (.t 8))), (.g 55 false 58 (.iS (.t 56) (.t 57))), (.g 55 false 59 (.bo .eql 0 (.t 58) (.c (.int .u8 34)))), (.s 60 (.pk (.t 55) (.c (.bool true)) (.t 59)))]) (.cond (.t 60) 
  (.seq (.r [(.s 61 (.mv false (.t 0))), (.s 62 (.mv false (.t 8))), (.s 63 (.cl (.c (.func x_ref07_closed [] [])) [(.t 61), (.t 62)])), (.s 9 (.mv true (.t 63)))]) 
  (.seq 
  (.seq (.r [(.s 64 (.mv false (.t 9))), (.s 65 (.bo .lss 0 (.t 64) (.c (.int .i64 0))))]) (.cond (.t 65) 
  (.seq (.r [(.s 66 (.mv false (.t 0))), (.s 67 (.mv false (.t 8))), (.s 68 (.cl (.c (.func x_ref07_at [] [])) [(.t 66), (.t 67)])), (.s 2 (.mv false (.c (.vec true [])))), (.n (.st true 2 (.t 3) (.t 68))), (.s 4 (.mv false (.c (.int .i64 71))))]) .ret) .skip)) 
  (.seq 
  (.seq (.r [(.s 69 (.mv false (.t 0))), (.s 70 (.mv false (.t 8))), (.s 71 (.iS (.t 69) (.t 70))), (.s 72 (.bo .eql 0 (.t 71) (.c (.int .u8 34))))]) (.cond (.t 72) (.r [(.s 73 (.mv true (.t 7))), (.s 74 (.mv false (.t 0))), (.s 75 (.mv false (.t 8))), (.s 76 (.bo .add 0 (.t 75) (.c (.int .i64 1)))), (.s 77 (.mv false (.t 9))), (.s 78 (.bo .sub 0 (.t 77) (.c (.int .i64 1)))), (.s 79 (.sS (.t 74) (some (.t 76)) (some (.t 78)))), (.s 80 (.mv false (.t 0))), (.s 81 (.mv false (.t 8))), (.s 82 (.cl (.c (.func x_ref07_at [] [])) [(.t 80), (.t 81)])), (.s 83 (.bd true [(.int .u8 0), (.str []), (.int .i64 0), (.int .i64 0)] [(0, (1, (.c (.int .u8 1)))), (1, (1, (.t 79))), (2, (2, (.t 82)))])), (.s 84 (.bs false 1 4 [(.int .u8 0), (.str []), (.int .i64 0), (.int .i64 0)] [(0, (.t 83))])), (.s 85 (.ap false 4 40 (.t 73) (.t 84))), (.s 7 (.mv true (.t 85)))]) .skip)) 
  (.seq (.r [(.s 86 (.mv false (.t 9))), (.s 8 (.mv true (.t 86)))]) (.exit 1))))) .skip)) 
  (.seq 
  (.seq (.r [(.s 87 (.mv false (.t 0))), (.s 88 (.mv false (.t 8))), (.s 89 (.iS (.t 87) (.t 88))), (.s 90 (.cl (.c (.func x_ref07_sign [] [])) [(.t 89)])), (.s 91 (.bo .gtr 0 (.t 90) (.c (.int .u8 0))))]) (.cond (.t 91) 
  (.seq (.r [(.s 92 (.mv true (.t 7))), (.s 93 (.mv false (.t 0))), (.s 94 (.mv false (.t 8))), (.s 95 (.iS (.t 93) (.t 94))), (.s 96 (.cl (.c (.func x_ref07_sign [] [])) [(.t 95)])), (.s 97 (.mv false (.t 0))), (.s 98 (.mv false (.t 8))), (.s 99 (.mv false (.t 8))), (.s 100 (.bo .add 0 (.t 99) (.c (.int .i64 1)))), (.s 101 (.sS (.t 97) (some (.t 98)) (some (.t 100)))), (.s 102 (.mv false (.t 0))), (.s 103 (.mv false (.t 8))), (.s 104 (.cl (.c (.func x_ref07_at [] [])) [(.t 102), (.t 103)])), (.s 105 (.bd true [(.int .u8 0), (.str []), (.int .i64 0), (.int .i64 0)] [(0, (1, (.t 96))), (1, (1, (.t 101))), (2, (2, (.t 104)))])), (.s 106 (.bs false 1 4 [(.int .u8 0), (.str []), (.int .i64 0), (.int .i64 0)] [(0, (.t 105))])), (.s 107 (.ap false 4 40 (.t 92) (.t 106))), (.s 7 (.mv true (.t 107)))]) 
  (.seq (.r [(.s 108 (.mv false (.t 8))), (.s 109 (.bo .add 0 (.t 108) (.c (.int .i64 1)))), (.s 8 (.mv true (.t 109)))]) (.exit 1))) .skip)) 
  (.seq (.r [(.s 110 (.mv false (.t 8))), (.s 10 (.mv true (.t 110)))]) 
  (.seq (.block 4 (.loop (l_ref07_Tokens_0 x_ref07_begins x_ref07_sign))) (.r [(.s 154 (.mv true (.t 7))), (.s 155 (.mv false (.t 0))), (.s 156 (.mv false (.t 10))), (.s 157 (.mv false (.t 8))), (.s 158 (.sS (.t 155) (some (.t 156)) (some (.t 157)))), (.s 159 (.mv false (.t 0))), (.s 160 (.mv false (.t 10))), (.s 161 (.cl (.c (.func x_ref07_at [] [])) [(.t 159), (.t 160)])), (.s 162 (.bd true [(.int .u8 0), (.str []), (.int .i64 0), (.int .i64 0)] [(0, (1, (.c (.int .u8 1)))), (1, (1, (.t 158))), (2, (2, (.t 161)))])), (.s 163 (.bs false 1 4 [(.int .u8 0), (.str []), (.int .i64 0), (.int .i64 0)] [(0, (.t 162))])), (.s 164 (.ap false 4 40 (.t 154) (.t 163))), (.s 7 (.mv true (.t 164)))])))))))))
def c_ref07_Tokens (x_ref07_Check x_ref07_begins x_ref07_closed x_ref07_at x_ref07_sign : Nat) : CF :=
  (.mk 167 
  (.seq (.r [(.s 2 (.mv false (.c (.vec true [])))), (.s 3 (.al [(.int .i64 0), (.int .i64 0)])), (.s 4 (.mv false (.c (.int .i64 0))))]) 
  (.seq (.r [(.s 12 (.mv false (.t 0))), (.s 13 (.cl (.c (.func x_ref07_Check [] [])) [(.t 12)])), (.s 11 (.mv true (.t 13))), (.s 14 (.ex (.t 11) 0)), (.s 15 (.ex (.t 11) 1)), (.s 5 (.al [(.int .i64 0), (.int .i64 0)])), (.n (.st true 2 (.t 5) (.t 14))), (.s 6 (.mv true (.t 15)))]) 
  (.seq 
  (.seq (.r [(.s 16 (.mv false (.t 6))), (.s 17 (.bo .neq 0 (.t 16) (.c (.int .i64 0))))]) (.cond (.t 17) 
  (.seq (.r [(.s 18 (.ld false (some 2) (.t 5))), (.s 19 (.mv false (.t 6))), (.s 2 (.mv false (.c (.vec true [])))), (.n (.st true 2 (.t 3) (.t 18))), (.s 4 (.mv true (.t 19)))]) .ret) .skip)) 
  (.seq (.r [(.s 7 (.mv false (.c (.vec true []))))]) 
  (.seq (.r [(.s 8 (.mv false (.c (.int .i64 0))))]) 
  (.seq (.block 0 (.loop (l_ref07_Tokens_2 x_ref07_begins x_ref07_closed x_ref07_at x_ref07_sign))) 
  (.seq (.r [(.s 165 (.mv false (.t 7))), (.s 166 (.bd true [(.int .i64 0), (.int .i64 0)] [])), (.s 2 (.mv true (.t 165))), (.n (.st true 2 (.t 3) (.t 166))), (.s 4 (.mv false (.c (.int .i64 0))))]) .ret))))))) [(.t 2), (.c 3 (some 2)), (.t 4)])
def c_ref14_state_kind : CF :=
  (.mk 24 
  (.seq (.r [(.s 2 (.mv false (.c (.int .u8 0))))]) 
  (.seq 
  (.seq (.r [(.s 3 (.mv false (.t 0))), (.s 4 (.nc (.t 3))), (.s 5 (.fa (.t 4) 1)), (.s 6 (.ld false none (.t 5))), (.s 7 (.mv false (.t 0))), (.s 8 (.nc (.t 7))), (.s 9 (.fa (.t 8) 0)), (.s 10 (.ld false none (.t 9))), (.s 11 (.le true (.t 10))), (.s 12 (.bo .geq 0 (.t 6) (.t 11)))]) (.cond (.t 12) 
  (.seq (.r [(.s 2 (.mv false (.c (.int .u8 0))))]) .ret) .skip)) 
  (.seq (.r [(.s 13 (.mv false (.t 0))), (.s 14 (.nc (.t 13))), (.s 15 (.fa (.t 14) 0)), (.s 16 (.ld false none (.t 15))), (.s 17 (.mv false (.t 0))), (.s 18 (.nc (.t 17))), (.s 19 (.fa (.t 18) 1)), (.s 20 (.ld false none (.t 19))), (.s 21 (.ia 4 (.t 16) (.t 20))), (.s 22 (.fa (.t 21) 0)), (.s 23 (.ld false none (.t 22))), (.s 2 (.mv true (.t 23)))]) .ret))) [(.t 2)])
def l_ref14_state_one_0 (x_ref14_state_kind x_ref14_state_word : Nat) : CC :=
  
  (.seq 
  (.seq (.r [(.s 38 (.mv false (.t 0))), (.s 39 (.cl (.c (.func x_ref14_state_kind [] [])) [(.t 38)])), (.s 40 (.bo .eql 0 (.t 39) (.c (.int .u8 1))))]) (.cond (.t 40) .skip (.exit 2))) (.block 3 (.r [(.s 41 (.mv true (.t 4))), (.s 42 (.mv false (.t 0))), (.s 43 (.ld false (some 4) (.t 2))), (.s 44 (.cl (.c (.func x_ref14_state_word [] [])) [(.t 42), (.t 43)])), (.s 45 (.bs false 1 4 [(.int .i64 0), (.vec false []), (.vec false []), (.bool false)] [(0, (.t 44))])), (.s 46 (.ap false 4 64 (.t 41) (.t 45))), (.s 4 (.mv true (.t 46)))])))
def l_ref14_state_one_1 (x_ref14_state_kind x_ref14_state_word : Nat) : CC :=
  
  (.seq 
  (.seq (.r [(.s 22 (.mv false (.t 0))), (.s 23 (.cl (.c (.func x_ref14_state_kind [] [])) [(.t 22)])), (.s 24 (.bo .eql 0 (.t 23) (.c (.int .u8 1))))]) (.cond (.t 24) .skip (.exit 0))) (.block 1 (.r [(.s 25 (.mv false (.t 0))), (.s 26 (.ld false (some 4) (.t 2))), (.s 27 (.cl (.c (.func x_ref14_state_word [] [])) [(.t 25), (.t 26)])), (.n (.st true 4 (.t 2) (.t 27)))])))
def c_ref14_state_one (x_ref14_state_kind x_ref14_state_word x_ref14_state_fail : Nat) : CF :=
  (.mk 194 
  (.seq (.r [(.s 5 (.mv false (.t 0))), (.s 6 (.nc (.t 5))), (.s 7 (.fa (.t 6) 3)), (.s 8 (.ld false none (.t 7))), (.s 9 (.le true (.t 8))), (.s 10 (.bd true [(.int .i64 0), (.vec true []), (.vec true []), (.bool false)] [(0, (1, (.t 9)))])), (.s 2 (.al [(.int .i64 0), (.vec true []), (.vec true []), (.bool false)])), (.n (.st true 4 (.t 2) (.t 10)))]) 
  (.seq (.r [(.s 11 (.mv false (.t 0))), (.s 12 (.nc (.t 11))), (.s 13 (.fa (.t 12) 0)), (.s 14 (.ld false none (.t 13))), (.s 15 (.mv false (.t 0))), (.s 16 (.nc (.t 15))), (.s 17 (.fa (.t 16) 1)), (.s 18 (.ld false none (.t 17))), (.s 19 (.ia 4 (.t 14) (.t 18))), (.s 20 (.fa (.t 19) 2)), (.s 21 (.ld false (some 2) (.t 20))), (.s 3 (.al [(.int .i64 0), (.int .i64 0)])), (.n (.st true 2 (.t 3) (.t 21)))]) 
  (.seq (.block 0 (.loop (l_ref14_state_one_1 x_ref14_state_kind x_ref14_state_word))) 
  (.seq (.r [(.s 4 (.mv false (.c (.vec true []))))]) 
  (.seq 
  (.seq (.r [(.s 28 (.mv false (.t 0))), (.s 29 (.cl (.c (.func x_ref14_state_kind [] [])) [(.t 28)])), (.s 30 (.bo .eql 0 (.t 29) (.c (.int .u8 5))))]) (.cond (.t 30) 
  (.seq (.r [(.s 31 (.mv false (.t 0))), (.s 32 (.nc (.t 31))), (.s 33 (.fa (.t 32) 1)), (.s 34 (.ld false none (.t 33))), (.s 35 (.bo .add 0 (.t 34) (.c (.int .i64 1)))), (.s 36 (.nc (.t 31))), (.s 37 (.fa (.t 36) 1)), (.n (.st true 1 (.t 37) (.t 35)))]) 
  (.seq (.block 2 (.loop (l_ref14_state_one_0 x_ref14_state_kind x_ref14_state_word))) 
  (.seq 
  (.seq (.r [(.s 47 (.mv false (.t 0))), (.s 48 (.cl (.c (.func x_ref14_state_kind [] [])) [(.t 47)])), (.s 49 (.bo .eql 0 (.t 48) (.c (.int .u8 0))))]) (.cond (.t 49) 
  (.seq (.r [(.s 50 (.mv false (.t 0))), (.s 51 (.ld false (some 2) (.t 3))), (.s 52 (.cl (.c (.func x_ref14_state_fail [] [])) [(.t 50), (.c (.int .i64 71)), (.t 51)]))]) .ret) .skip)) 
  (.seq 
  (.seq (.r [(.s 53 (.mv false (.t 0))), (.s 54 (.cl (.c (.func x_ref14_state_kind [] [])) [(.t 53)])), (.s 55 (.bo .neq 0 (.t 54) (.c (.int .u8 6)))), (.s 56 (.mv true (.t 55))), (.g 56 false 57 (.mv false (.t 4))), (.g 56 false 58 (.le true (.t 57))), (.g 56 false 59 (.bo .eql 0 (.t 58) (.c (.int .i64 0)))), (.s 60 (.pk (.t 56) (.c (.bool true)) (.t 59)))]) (.cond (.t 60) 
  (.seq (.r [(.s 61 (.mv false (.t 0))), (.s 62 (.mv false (.t 0))), (.s 63 (.nc (.t 62))), (.s 64 (.fa (.t 63) 0)), (.s 65 (.ld false none (.t 64))), (.s 66 (.mv false (.t 0))), (.s 67 (.nc (.t 66))), (.s 68 (.fa (.t 67) 1)), (.s 69 (.ld false none (.t 68))), (.s 70 (.ia 4 (.t 65) (.t 69))), (.s 71 (.fa (.t 70) 2)), (.s 72 (.ld false (some 2) (.t 71))), (.s 73 (.cl (.c (.func x_ref14_state_fail [] [])) [(.t 61), (.c (.int .i64 130)), (.t 72)]))]) .ret) .skip)) (.r [(.s 74 (.mv false (.t 0))), (.s 75 (.nc (.t 74))), (.s 76 (.fa (.t 75) 1)), (.s 77 (.ld false none (.t 76))), (.s 78 (.bo .add 0 (.t 77) (.c (.int .i64 1)))), (.s 79 (.nc (.t 74))), (.s 80 (.fa (.t 79) 1)), (.n (.st true 1 (.t 80) (.t 78)))]))))) .skip)) (.block 4 
  (.seq (.r [(.s 95 (.mv false (.t 0))), (.s 96 (.cl (.c (.func x_ref14_state_kind [] [])) [(.t 95)])), (.s 97 (.bo .eql 0 (.t 96) (.c (.int .u8 0)))), (.s 94 (.mv true (.t 97)))]) (.cond (.t 94) (.r [(.s 98 (.mv false (.t 0))), (.s 99 (.ld false (some 2) (.t 3))), (.s 100 (.cl (.c (.func x_ref14_state_fail [] [])) [(.t 98), (.c (.int .i64 71)), (.t 99)]))]) 
  (.seq (.r [(.s 102 (.mv false (.t 0))), (.s 103 (.cl (.c (.func x_ref14_state_kind [] [])) [(.t 102)])), (.s 104 (.bo .eql 0 (.t 103) (.c (.int .u8 4)))), (.s 101 (.mv true (.t 104)))]) (.cond (.t 101) 
  (.seq 
  (.seq (.r [(.s 105 (.mv false (.t 4))), (.s 106 (.le true (.t 105))), (.s 107 (.bo .eql 0 (.t 106) (.c (.int .i64 0))))]) (.cond (.t 107) (.r [(.s 108 (.mv true (.t 4))), (.s 109 (.ld false (some 4) (.t 2))), (.s 110 (.bs false 1 4 [(.int .i64 0), (.vec false []), (.vec false []), (.bool false)] [(0, (.t 109))])), (.s 111 (.ap false 4 64 (.t 108) (.t 110))), (.s 4 (.mv true (.t 111)))]) .skip)) 
  (.seq (.r [(.s 112 (.mv false (.t 0))), (.s 113 (.mv false (.t 0))), (.s 114 (.nc (.t 113))), (.s 115 (.fa (.t 114) 2)), (.s 116 (.ld true none (.t 115))), (.s 117 (.mv false (.t 4))), (.s 118 (.ap false 4 64 (.t 116) (.t 117))), (.s 119 (.nc (.t 112))), (.s 120 (.fa (.t 119) 2)), (.n (.st true 1 (.t 120) (.t 118)))]) (.r [(.s 121 (.mv false (.t 0))), (.s 122 (.nc (.t 121))), (.s 123 (.fa (.t 122) 1)), (.s 124 (.ld false none (.t 123))), (.s 125 (.bo .add 0 (.t 124) (.c (.int .i64 1)))), (.s 126 (.nc (.t 121))), (.s 127 (.fa (.t 126) 1)), (.n (.st true 1 (.t 127) (.t 125)))]))) 
  (.seq (.r [(.s 129 (.mv false (.t 0))), (.s 130 (.cl (.c (.func x_ref14_state_kind [] [])) [(.t 129)])), (.s 131 (.bo .eql 0 (.t 130) (.c (.int .u8 2)))), (.s 132 (.mv true (.t 131))), (.g 132 true 133 (.mv false (.t 4))), (.g 132 true 134 (.le true (.t 133))), (.g 132 true 135 (.bo .eql 0 (.t 134) (.c (.int .i64 0)))), (.s 136 (.pk (.t 132) (.t 135) (.c (.bool false)))), (.s 128 (.mv true (.t 136)))]) (.cond (.t 128) 
  (.seq 
  (.seq (.r [(.s 137 (.mv false (.t 0))), (.s 138 (.nc (.t 137))), (.s 139 (.fa (.t 138) 3)), (.s 140 (.ld false none (.t 139))), (.s 141 (.le true (.t 140))), (.s 142 (.bo .geq 0 (.t 141) (.c (.int .i64 32))))]) (.cond (.t 142) 
  (.seq (.r [(.s 143 (.mv false (.t 0))), (.s 144 (.mv false (.t 0))), (.s 145 (.nc (.t 144))), (.s 146 (.fa (.t 145) 0)), (.s 147 (.ld false none (.t 146))), (.s 148 (.mv false (.t 0))), (.s 149 (.nc (.t 148))), (.s 150 (.fa (.t 149) 1)), (.s 151 (.ld false none (.t 150))), (.s 152 (.ia 4 (.t 147) (.t 151))), (.s 153 (.fa (.t 152) 2)), (.s 154 (.ld false (some 2) (.t 153))), (.s 155 (.cl (.c (.func x_ref14_state_fail [] [])) [(.t 143), (.c (.int .i64 140)), (.t 154)]))]) .ret) .skip)) 
  (.seq (.r [(.s 156 (.fa (.t 2) 3)), (.n (.st false 1 (.t 156) (.c (.bool true))))]) 
  (.seq (.r [(.s 157 (.mv false (.t 0))), (.s 158 (.mv false (.t 0))), (.s 159 (.nc (.t 158))), (.s 160 (.fa (.t 159) 2)), (.s 161 (.ld true none (.t 160))), (.s 162 (.ld false (some 4) (.t 2))), (.s 163 (.bs false 1 4 [(.int .i64 0), (.vec false []), (.vec false []), (.bool false)] [(0, (.t 162))])), (.s 164 (.ap false 4 64 (.t 161) (.t 163))), (.s 165 (.nc (.t 157))), (.s 166 (.fa (.t 165) 2)), (.n (.st true 1 (.t 166) (.t 164)))]) 
  (.seq (.r [(.s 167 (.mv false (.t 0))), (.s 168 (.mv false (.t 0))), (.s 169 (.nc (.t 168))), (.s 170 (.fa (.t 169) 3)), (.s 171 (.ld true none (.t 170))), (.s 172 (.mv false (.t 0))), (.s 173 (.nc (.t 172))), (.s 174 (.fa (.t 173) 0)), (.s 175 (.ld false none (.t 174))), (.s 176 (.mv false (.t 0))), (.s 177 (.nc (.t 176))), (.s 178 (.fa (.t 177) 1)), (.s 179 (.ld false none (.t 178))), (.s 180 (.ia 4 (.t 175) (.t 179))), (.s 181 (.fa (.t 180) 2)), (.s 182 (.ld false (some 2) (.t 181))), (.s 183 (.bs false 1 2 [(.int .i64 0), (.int .i64 0)] [(0, (.t 182))])), (.s 184 (.ap false 2 16 (.t 171) (.t 183))), (.s 185 (.nc (.t 167))), (.s 186 (.fa (.t 185) 3)), (.n (.st true 1 (.t 186) (.t 184)))]) (.r [(.s 187 (.mv false (.t 0))), (.s 188 (.nc (.t 187))), (.s 189 (.fa (.t 188) 1)), (.s 190 (.ld false none (.t 189))), (.s 191 (.bo .add 0 (.t 190) (.c (.int .i64 1)))), (.s 192 (.nc (.t 187))), (.s 193 (.fa (.t 192) 1)), (.n (.st true 1 (.t 193) (.t 191)))]))))) (.r [(.s 81 (.mv false (.t 0))), (.s 82 (.mv false (.t 0))), (.s 83 (.nc (.t 82))), (.s 84 (.fa (.t 83) 0)), (.s 85 (.ld false none (.t 84))), (.s 86 (.mv false (.t 0))), (.s 87 (.nc (.t 86))), (.s 88 (.fa (.t 87) 1)), (.s 89 (.ld false none (.t 88))), (.s 90 (.ia 4 (.t 85) (.t 89))), (.s 91 (.fa (.t 90) 2)), (.s 92 (.ld false (some 2) (.t 91))), (.s 93 (.cl (.c (.func x_ref14_state_fail [] [])) [(.t 81), (.c (.int .i64 130)), (.t 92)]))]))))))))))))) [])
def c_ref14_state_fail : CF :=
  (.mk 19 
  (.seq (.r [(.s 5 (.bx false (.t 2)))]) 
  (.seq (.r [(.s 6 (.mv false (.t 0))), (.s 7 (.nc (.t 6))), (.s 8 (.fa (.t 7) 4)), (.s 9 (.ld false none (.t 8))), (.s 10 (.bo .eql 0 (.t 9) (.c (.int .i64 0))))]) (.cond (.t 10) 
  (.seq (.r [(.s 11 (.mv false (.t 0))), (.s 12 (.mv false (.t 1))), (.s 13 (.nc (.t 11))), (.s 14 (.fa (.t 13) 4)), (.n (.st true 1 (.t 14) (.t 12)))]) (.r [(.s 15 (.mv false (.t 0))), (.s 16 (.ld false (some 2) (.t 5))), (.s 17 (.nc (.t 15))), (.s 18 (.fa (.t 17) 5)), (.n (.st true 2 (.t 18) (.t 16)))])) .skip))) [])
def l_tree_Inherit_0 (x_tree_outer : Nat) : CC :=
  
  (.seq (.r [(.s 19 (.bo .lss 0 (.t 18) (.t 17)))]) 
  (.seq (.cond (.t 19) .skip (.exit 0)) 
  (.seq (.block 1 
  (.seq (.r [(.s 20 (.ia 4 (.t 16) (.t 18))), (.s 21 (.ld false (some 4) (.t 20))), (.s 9 (.al [(.vec true []), (.vec true []), (.bool false), (.vec true [])])), (.n (.st true 4 (.t 9) (.t 21)))]) 
  (.seq 
  (.seq (.r [(.s 22 (.ld false (some 4) (.t 9))), (.s 23 (.cl (.c (.func x_tree_outer [] [])) [(.t 22)]))]) (.cond (.t 23) 
  (.seq (.r [(.s 24 (.fa (.t 9) 3)), (.s 25 (.ld false none (.t 24))), (.s 7 (.mv true (.t 25))), (.s 26 (.fa (.t 9) 3)), (.n (.st false 1 (.t 26) (.c (.vec true []))))]) 
  (.seq (.r [(.s 27 (.mv true (.t 6))), (.s 28 (.ld false (some 4) (.t 9))), (.s 29 (.bs false 1 4 [(.vec false []), (.vec false []), (.bool false), (.vec false [])] [(0, (.t 28))])), (.s 30 (.ap false 4 80 (.t 27) (.t 29))), (.s 6 (.mv true (.t 30)))]) (.exit 1))) .skip)) (.r [(.s 31 (.mv true (.t 5))), (.s 32 (.ld false (some 4) (.t 9))), (.s 33 (.bs false 1 4 [(.vec false []), (.vec false []), (.bool false), (.vec false [])] [(0, (.t 32))])), (.s 34 (.ap false 4 80 (.t 31) (.t 33))), (.s 35 (.mv true (.t 6))), (.s 36 (.ld false (some 4) (.t 9))), (.s 37 (.bs false 1 4 [(.vec false []), (.vec false []), (.bool false), (.vec false [])] [(0, (.t 36))])), (.s 38 (.ap false 4 80 (.t 35) (.t 37))), (.s 5 (.mv true (.t 34))), (.s 6 (.mv true (.t 38)))])))) (.r [(.s 39 (.bo .add 0 (.t 18) (.c (.int .i64 1)))), (.s 18 (.mv true (.t 39)))]))))
def c_tree_Inherit (x_tree_Merge x_tree_outer x_tree_book x_tree_known x_tree_inherited x_slices_DeleteFunc_tree_Node : Nat) : CF :=
  (.mk 65 
  (.seq (.r [(.s 2 (.mv false (.c (.vec true [])))), (.s 3 (.al [(.int .i64 0), (.int .i64 0)])), (.s 4 (.mv false (.c (.int .i64 0))))]) 
  (.seq (.r [(.s 5 (.mv false (.c (.vec true [])))), (.s 6 (.mv false (.c (.vec true [])))), (.s 7 (.mv false (.c (.vec true []))))]) 
  (.seq 
  (.seq (.r [(.s 15 (.mv false (.t 0))), (.s 16 (.cl (.c (.func x_tree_Merge [] [])) [(.t 15)])), (.s 17 (.le true (.t 16))), (.s 18 (.mv false (.c (.int .i64 0))))]) (.block 0 (.loop (l_tree_Inherit_0 x_tree_outer)))) 
  (.seq (.r [(.s 41 (.mv false (.t 7))), (.s 42 (.cl (.c (.func x_tree_book [] [])) [(.t 41)])), (.s 40 (.mv true (.t 42))), (.s 43 (.ex (.t 40) 0)), (.s 44 (.ex (.t 40) 1)), (.s 45 (.ex (.t 40) 2)), (.s 11 (.al [(.int .i64 0), (.int .i64 0)])), (.s 10 (.mv true (.t 43))), (.n (.st true 2 (.t 11) (.t 44))), (.s 12 (.mv true (.t 45)))]) 
  (.seq 
  (.seq (.r [(.s 46 (.mv false (.t 12))), (.s 47 (.bo .neq 0 (.t 46) (.c (.int .i64 0))))]) (.cond (.t 47) 
  (.seq (.r [(.s 48 (.ld false (some 2) (.t 11))), (.s 49 (.mv false (.t 12))), (.s 2 (.mv false (.c (.vec true [])))), (.n (.st true 2 (.t 3) (.t 48))), (.s 4 (.mv true (.t 49)))]) .ret) .skip)) 
  (.seq 
  (.seq (.r [(.s 51 (.mv false (.t 5))), (.s 52 (.mv false (.t 10))), (.s 53 (.cl (.c (.func x_tree_known [] [])) [(.t 51), (.t 52)])), (.s 50 (.mv true (.t 53))), (.s 54 (.ex (.t 50) 0)), (.s 55 (.ex (.t 50) 1)), (.s 13 (.al [(.int .i64 0), (.int .i64 0)])), (.n (.st true 2 (.t 13) (.t 54))), (.s 14 (.mv true (.t 55)))]) 
  (.seq (.r [(.s 56 (.mv false (.t 14))), (.s 57 (.bo .neq 0 (.t 56) (.c (.int .i64 0))))]) (.cond (.t 57) 
  (.seq (.r [(.s 58 (.ld false (some 2) (.t 13))), (.s 59 (.mv false (.t 14))), (.s 2 (.mv false (.c (.vec true [])))), (.n (.st true 2 (.t 3) (.t 58))), (.s 4 (.mv true (.t 59)))]) .ret) .skip))) 
  (.seq (.r [(.s 60 (.mv false (.t 6))), (.s 61 (.mv false (.t 10))), (.s 62 (.cl (.c (.func x_tree_inherited [] [])) [(.t 60), (.t 61)])), (.s 63 (.cl (.c (.func x_slices_DeleteFunc_tree_Node [] [])) [(.t 62), (.c (.func x_tree_outer [] []))])), (.s 64 (.bd true [(.int .i64 0), (.int .i64 0)] [])), (.s 2 (.mv true (.t 63))), (.n (.st true 2 (.t 3) (.t 64))), (.s 4 (.mv false (.c (.int .i64 0))))]) .ret))))))) [(.t 2), (.c 3 (some 2)), (.t 4)])
def l_slices_EqualFunc_tree_Node_0 : CC :=
  
  (.seq (.r [(.s 18 (.bo .lss 0 (.t 17) (.t 16)))]) 
  (.seq (.cond (.t 18) .skip (.exit 0)) 
  (.seq (.block 1 
  (.seq (.r [(.s 19 (.mv false (.t 17))), (.s 20 (.ia 4 (.t 15) (.t 17))), (.s 21 (.ld false (some 4) (.t 20))), (.s 8 (.al [(.vec true []), (.vec true []), (.bool false), (.vec true [])])), (.s 7 (.mv true (.t 19))), (.n (.st true 4 (.t 8) (.t 21)))]) 
  (.seq (.r [(.s 22 (.mv false (.t 1))), (.s 23 (.mv false (.t 7))), (.s 24 (.ia 4 (.t 22) (.t 23))), (.s 25 (.ld false (some 4) (.t 24))), (.s 9 (.al [(.vec true []), (.vec true []), (.bool false), (.vec true [])])), (.n (.st true 4 (.t 9) (.t 25)))]) 
  (.seq (.r [(.s 26 (.mv false (.t 2))), (.s 27 (.ld false (some 4) (.t 8))), (.s 28 (.ld false (some 4) (.t 9))), (.s 29 (.cl (.t 26) [(.t 27), (.t 28)])), (.s 30 (.uo .not (.t 29)))]) (.cond (.t 30) 
  (.seq (.r [(.s 6 (.mv false (.c (.bool false))))]) .ret) .skip))))) (.r [(.s 31 (.bo .add 0 (.t 17) (.c (.int .i64 1)))), (.s 17 (.mv true (.t 31)))]))))
def c_slices_EqualFunc_tree_Node : CF :=
  (.mk 32 
  (.seq (.r [(.s 6 (.mv false (.c (.bool false))))]) 
  (.seq 
  (.seq (.r [(.s 10 (.mv false (.t 0))), (.s 11 (.le true (.t 10))), (.s 12 (.mv false (.t 1))), (.s 13 (.le true (.t 12))), (.s 14 (.bo .neq 0 (.t 11) (.t 13)))]) (.cond (.t 14) 
  (.seq (.r [(.s 6 (.mv false (.c (.bool false))))]) .ret) .skip)) 
  (.seq 
  (.seq (.r [(.s 15 (.mv false (.t 0))), (.s 16 (.le true (.t 15))), (.s 17 (.mv false (.c (.int .i64 0))))]) (.block 0 (.loop l_slices_EqualFunc_tree_Node_0))) 
  (.seq (.r [(.s 6 (.mv false (.c (.bool true))))]) .ret)))) [(.t 6)])
def c_tree_Same_1 (x_slices_Equal_string x_tree_Same : Nat) : CF :=
  (.mk 24 
  (.seq (.r [(.s 2 (.bx false (.t 0))), (.s 3 (.bx false (.t 1))), (.s 4 (.mv false (.c (.bool false))))]) 
  (.seq (.r [(.s 5 (.fa (.t 2) 2)), (.s 6 (.ld false none (.t 5))), (.s 7 (.fa (.t 3) 2)), (.s 8 (.ld false none (.t 7))), (.s 9 (.bo .eql 3 (.t 6) (.t 8))), (.s 10 (.mv true (.t 9))), (.g 10 true 11 (.fa (.t 2) 0)), (.g 10 true 12 (.ld false none (.t 11))), (.g 10 true 13 (.fa (.t 3) 0)), (.g 10 true 14 (.ld false none (.t 13))), (.g 10 true 15 (.cl (.c (.func x_slices_Equal_string [] [])) [(.t 12), (.t 14)])), (.s 16 (.pk (.t 10) (.t 15) (.c (.bool false)))), (.s 17 (.mv true (.t 16))), (.g 17 true 18 (.fa (.t 2) 3)), (.g 17 true 19 (.ld false none (.t 18))), (.g 17 true 20 (.fa (.t 3) 3)), (.g 17 true 21 (.ld false none (.t 20))), (.g 17 true 22 (.cl (.c (.func x_tree_Same [] [])) [(.t 19), (.t 21)])), (.s 23 (.pk (.t 17) (.t 22) (.c (.bool false)))), (.s 4 (.mv true (.t 23)))]) .ret)) [(.t 4)])
def l_ref14_blanks_0 : CC :=
  
  (.seq 
  (.seq (.r [(.s 5 (.mv false (.t 4))), (.s 6 (.mv false (.t 0))), (.s 7 (.bo .lss 0 (.t 5) (.t 6)))]) (.cond (.t 7) .skip (.exit 0))) 
  (.seq (.block 1 (.r [(.s 10 (.mv false (.t 3))), (.s 11 (.bo .add 0 (.t 10) (.c (.str [32, 32, 32, 32])))), (.s 3 (.mv true (.t 11)))])) (.r [(.s 8 (.mv false (.t 4))), (.s 9 (.bo .add 0 (.t 8) (.c (.int .i64 1)))), (.s 4 (.mv true (.t 9)))])))
def c_ref14_blanks : CF :=
  (.mk 13 
  (.seq (.r [(.s 2 (.mv false (.c (.str []))))]) 
  (.seq (.r [(.s 3 (.mv false (.c (.str []))))]) 
  (.seq 
  (.seq (.r [(.s 4 (.mv false (.c (.int .i64 0))))]) (.block 0 (.loop l_ref14_blanks_0))) 
  (.seq (.r [(.s 12 (.mv false (.t 3))), (.s 2 (.mv true (.t 12)))]) .ret)))) [(.t 2)])
def l_ref14_quoted_0 : CC :=
  
  (.seq 
  (.seq (.r [(.s 9 (.mv false (.t 5))), (.s 10 (.mv false (.t 0))), (.s 11 (.le false (.t 10))), (.s 12 (.bo .lss 0 (.t 9) (.t 11)))]) (.cond (.t 12) .skip (.exit 0))) 
  (.seq (.block 1 
  (.seq (.r [(.s 15 (.mv false (.t 0))), (.s 16 (.mv false (.t 5))), (.s 17 (.iS (.t 15) (.t 16))), (.s 6 (.mv true (.t 17)))]) 
  (.seq 
  (.seq (.r [(.s 18 (.mv false (.t 6))), (.s 19 (.bo .lss 0 (.t 18) (.c (.int .u8 32)))), (.s 20 (.mv true (.t 19))), (.g 20 false 21 (.mv false (.t 6))), (.g 20 false 22 (.bo .gtr 0 (.t 21) (.c (.int .u8 126)))), (.s 23 (.pk (.t 20) (.c (.bool true)) (.t 22))), (.s 24 (.mv true (.t 23))), (.g 24 false 25 (.mv false (.t 6))), (.g 24 false 26 (.bo .eql 0 (.t 25) (.c (.int .u8 34)))), (.s 27 (.pk (.t 24) (.c (.bool true)) (.t 26)))]) (.cond (.t 27) 
  (.seq (.r [(.s 2 (.mv false (.c (.str [])))), (.s 3 (.mv false (.c (.bool false))))]) .ret) .skip)) (.r [(.s 28 (.mv false (.t 4))), (.s 29 (.mv true (.t 28))), (.g 29 false 30 (.mv false (.t 6))), (.g 29 false 31 (.bo .eql 0 (.t 30) (.c (.int .u8 32)))), (.s 32 (.pk (.t 29) (.c (.bool true)) (.t 31))), (.s 33 (.mv true (.t 32))), (.g 33 false 34 (.mv false (.t 6))), (.g 33 false 35 (.bo .eql 0 (.t 34) (.c (.int .u8 123)))), (.s 36 (.pk (.t 33) (.c (.bool true)) (.t 35))), (.s 37 (.mv true (.t 36))), (.g 37 false 38 (.mv false (.t 6))), (.g 37 false 39 (.bo .eql 0 (.t 38) (.c (.int .u8 125)))), (.s 40 (.pk (.t 37) (.c (.bool true)) (.t 39))), (.s 41 (.mv true (.t 40))), (.g 41 false 42 (.mv false (.t 6))), (.g 41 false 43 (.bo .eql 0 (.t 42) (.c (.int .u8 59)))), (.s 44 (.pk (.t 41) (.c (.bool true)) (.t 43))), (.s 45 (.mv true (.t 44))), (.g 45 false 46 (.mv false (.t 6))), (.g 45 false 47 (.bo .eql 0 (.t 46) (.c (.int .u8 91)))), (.s 48 (.pk (.t 45) (.c (.bool true)) (.t 47))), (.s 49 (.mv true (.t 48))), (.g 49 false 50 (.mv false (.t 6))), (.g 49 false 51 (.bo .eql 0 (.t 50) (.c (.int .u8 93)))), (.s 52 (.pk (.t 49) (.c (.bool true)) (.t 51))), (.s 53 (.mv true (.t 52))), (.g 53 false 54 (.mv false (.t 6))), (.g 53 false 55 (.bo .eql 0 (.t 54) (.c (.int .u8 35)))), (.s 56 (.pk (.t 53) (.c (.bool true)) (.t 55))), (.s 57 (.mv true (.t 56))), (.g 57 false 58 (.mv false (.t 6))), (.g 57 false 59 (.bo .eql 0 (.t 58) (.c (.int .u8 47)))), (.g 57 false 60 (.mv true (.t 59))), (.g 60 true 61 (.mv false (.t 5))), (.g 60 true 62 (.bo .add 0 (.t 61) (.c (.int .i64 1)))), (.g 60 true 63 (.mv false (.t 0))), (.g 60 true 64 (.le false (.t 63))), (.g 60 true 65 (.bo .lss 0 (.t 62) (.t 64))), (.g 57 false 66 (.pk (.t 60) (.t 65) (.c (.bool false)))), (.g 57 false 67 (.mv true (.t 66))), (.g 67 true 68 (.mv false (.t 0))), (.g 67 true 69 (.mv false (.t 5))), (.g 67 true 70 (.bo .add 0 (.t 69) (.c (.int .i64 1)))), (.g 67 true 71 (.iS (.t 68) (.t 70))), (.g 67 true 72 (.bo .eql 0 (.t 71) (.c (.int .u8 42)))), (.g 57 false 73 (.pk (.t 67) (.t 72) (.c (.bool false)))), (.s 74 (.pk (.t 57) (.c (.bool true)) (.t 73))), (.s 4 (.mv true (.t 74)))])))) (.r [(.s 13 (.mv false (.t 5))), (.s 14 (.bo .add 0 (.t 13) (.c (.int .i64 1)))), (.s 5 (.mv true (.t 14)))])))
def c_ref14_quoted : CF :=
  (.mk 80 
  (.seq (.r [(.s 2 (.mv false (.c (.str [])))), (.s 3 (.mv false (.c (.bool false))))]) 
  (.seq (.r [(.s 7 (.mv false (.t 0))), (.s 8 (.bo .eql 0 (.t 7) (.c (.str [])))), (.s 4 (.mv true (.t 8)))]) 
  (.seq 
  (.seq (.r [(.s 5 (.mv false (.c (.int .i64 0))))]) (.block 0 (.loop l_ref14_quoted_0))) 
  (.seq 
  (.seq (.r [(.s 75 (.mv false (.t 4)))]) (.cond (.t 75) 
  (.seq (.r [(.s 76 (.mv false (.t 0))), (.s 77 (.bo .add 0 (.c (.str [34])) (.t 76))), (.s 78 (.bo .add 0 (.t 77) (.c (.str [34])))), (.s 2 (.mv true (.t 78))), (.s 3 (.mv false (.c (.bool true))))]) .ret) .skip)) 
  (.seq (.r [(.s 79 (.mv false (.t 0))), (.s 2 (.mv true (.t 79))), (.s 3 (.mv false (.c (.bool true))))]) .ret))))) [(.t 2), (.t 3)])
def l_ref14_same_0 : CC :=
  
  (.seq 
  (.seq (.r [(.s 11 (.mv false (.t 5))), (.s 12 (.mv false (.t 0))), (.s 13 (.le true (.t 12))), (.s 14 (.bo .lss 0 (.t 11) (.t 13)))]) (.cond (.t 14) .skip (.exit 0))) 
  (.seq (.block 1 
  (.seq (.r [(.s 17 (.mv false (.t 0))), (.s 18 (.mv false (.t 5))), (.s 19 (.ia 1 (.t 17) (.t 18))), (.s 20 (.ld false none (.t 19))), (.s 21 (.mv false (.t 1))), (.s 22 (.mv false (.t 5))), (.s 23 (.ia 1 (.t 21) (.t 22))), (.s 24 (.ld false none (.t 23))), (.s 25 (.bo .neq 0 (.t 20) (.t 24)))]) (.cond (.t 25) 
  (.seq (.r [(.s 4 (.mv false (.c (.bool false))))]) .ret) .skip))) (.r [(.s 15 (.mv false (.t 5))), (.s 16 (.bo .add 0 (.t 15) (.c (.int .i64 1)))), (.s 5 (.mv true (.t 16)))])))
def c_ref14_same : CF :=
  (.mk 26 
  (.seq (.r [(.s 4 (.mv false (.c (.bool false))))]) 
  (.seq 
  (.seq (.r [(.s 6 (.mv false (.t 0))), (.s 7 (.le true (.t 6))), (.s 8 (.mv false (.t 1))), (.s 9 (.le true (.t 8))), (.s 10 (.bo .neq 0 (.t 7) (.t 9)))]) (.cond (.t 10) 
  (.seq (.r [(.s 4 (.mv false (.c (.bool false))))]) .ret) .skip)) 
  (.seq 
  (.seq (.r [(.s 5 (.mv false (.c (.int .i64 0))))]) (.block 0 (.loop l_ref14_same_0))) 
  (.seq (.r [(.s 4 (.mv false (.c (.bool true))))]) .ret)))) [(.t 4)])
def l_lex_check_0 : CC :=
  
  (.seq (.r [(.s 14 (.bo .lss 0 (.t 13) (.t 12)))]) 
  (.seq (.cond (.t 14) .skip (.exit 0)) 
  (.seq (.block 1 
  (.seq (.r [(.s 15 (.mv false (.t 13))), (.s 5 (.mv true (.t 15)))]) 
  (.seq (.block 2 
  (.seq (.r [(.s 17 (.fa (.t 4) 0)), (.s 18 (.ld false none (.t 17))), (.s 19 (.bo .gtr 0 (.t 18) (.c (.int .i64 4096)))), (.s 16 (.mv true (.t 19)))]) (.cond (.t 16) 
  (.seq (.r [(.s 20 (.ld false (some 2) (.t 4))), (.n (.st true 2 (.t 2) (.t 20))), (.s 3 (.mv false (.c (.int .i64 3))))]) .ret) 
  (.seq (.r [(.s 22 (.mv false (.t 0))), (.s 23 (.mv false (.t 5))), (.s 24 (.iS (.t 22) (.t 23))), (.s 25 (.bo .eql 0 (.t 24) (.c (.int .u8 10)))), (.s 21 (.mv true (.t 25)))]) (.cond (.t 21) 
  (.seq (.r [(.s 26 (.fa (.t 4) 0)), (.s 27 (.ld false none (.t 26))), (.s 28 (.bo .add 0 (.t 27) (.c (.int .i64 1)))), (.s 29 (.bd true [(.int .i64 0), (.int .i64 0)] [(0, (1, (.t 28))), (1, (1, (.c (.int .i64 1))))])), (.n (.st true 2 (.t 4) (.t 29)))]) (.exit 1)) 
  (.seq (.r [(.s 31 (.mv false (.t 0))), (.s 32 (.mv false (.t 5))), (.s 33 (.iS (.t 31) (.t 32))), (.s 34 (.bo .lss 0 (.t 33) (.c (.int .u8 32)))), (.s 35 (.mv true (.t 34))), (.g 35 false 36 (.mv false (.t 0))), (.g 35 false 37 (.mv false (.t 5))), (.g 35 false 38 (.iS (.t 36) (.t 37))), (.g 35 false 39 (.bo .gtr 0 (.t 38) (.c (.int .u8 126)))), (.s 40 (.pk (.t 35) (.c (.bool true)) (.t 39))), (.s 30 (.mv true (.t 40)))]) (.cond (.t 30) 
  (.seq (.r [(.s 41 (.ld false (some 2) (.t 4))), (.n (.st true 2 (.t 2) (.t 41))), (.s 3 (.mv false (.c (.int .i64 70))))]) .ret) .skip))))))) (.r [(.s 42 (.fa (.t 4) 1)), (.s 43 (.ld false none (.t 42))), (.s 44 (.bo .add 0 (.t 43) (.c (.int .i64 1)))), (.s 45 (.fa (.t 4) 1)), (.n (.st true 1 (.t 45) (.t 44)))])))) (.r [(.s 46 (.bo .add 0 (.t 13) (.c (.int .i64 1)))), (.s 13 (.mv true (.t 46)))]))))
def c_lex_check : CF :=
  (.mk 48 
  (.seq (.r [(.s 2 (.al [(.int .i64 0), (.int .i64 0)])), (.s 3 (.mv false (.c (.int .i64 0))))]) 
  (.seq 
  (.seq (.r [(.s 6 (.mv false (.t 0))), (.s 7 (.le false (.t 6))), (.s 8 (.bo .gtr 0 (.t 7) (.c (.int .i64 65536))))]) (.cond (.t 8) 
  (.seq (.r [(.s 9 (.bd true [(.int .i64 0), (.int .i64 0)] [])), (.n (.st true 2 (.t 2) (.t 9))), (.s 3 (.mv false (.c (.int .i64 3))))]) .ret) .skip)) 
  (.seq (.r [(.s 10 (.bd true [(.int .i64 0), (.int .i64 0)] [(0, (1, (.c (.int .i64 1)))), (1, (1, (.c (.int .i64 1))))])), (.s 4 (.al [(.int .i64 0), (.int .i64 0)])), (.n (.st true 2 (.t 4) (.t 10)))]) 
  (.seq 
  (.seq (.r [(.s 11 (.mv false (.t 0))), (.s 12 (.le false (.t 11))), (.s 13 (.mv false (.c (.int .i64 0))))]) (.block 0 (.loop l_lex_check_0))) 
  (.seq (.r [(.s 47 (.bd true [(.int .i64 0), (.int .i64 0)] [])), (.n (.st true 2 (.t 2) (.t 47))), (.s 3 (.mv false (.c (.int .i64 0))))]) .ret))))) [(.c 2 (some 2)), (.t 3)])
def c_lex_reader_token (x_strings_IndexByte x_lex_reader_take x_lex_reader_until x_strings_HasPrefix x_strings_Index x_strings_IndexAny x_lex_reader_token_1 x_lex_reader_ends : Nat) : CF :=
  (.mk 109 
  (.seq (.r [(.s 1 (.bx false (.t 0))), (.s 2 (.al [(.int .u8 0), (.str []), (.int .i64 0), (.int .i64 0)])), (.s 3 (.mv false (.c (.bool false)))), (.s 4 (.mv false (.c (.int .i64 0))))]) 
  (.seq (.r [(.s 10 (.ld false none (.t 1))), (.s 11 (.nc (.t 10))), (.s 12 (.fa (.t 11) 1)), (.s 13 (.ld false (some 2) (.t 12))), (.s 14 (.bd true [(.int .u8 0), (.str []), (.int .i64 0), (.int .i64 0)] [(0, (1, (.c (.int .u8 1)))), (2, (2, (.t 13)))])), (.s 5 (.al [(.int .u8 0), (.str []), (.int .i64 0), (.int .i64 0)])), (.n (.st true 4 (.t 5) (.t 14)))]) 
  (.seq (.r [(.s 15 (.ld false none (.t 1))), (.s 16 (.nc (.t 15))), (.s 17 (.fa (.t 16) 0)), (.s 18 (.ld false none (.t 17))), (.s 19 (.iS (.t 18) (.c (.int .i64 0)))), (.s 6 (.mv true (.t 19)))]) 
  (.seq 
  (.seq (.r [(.s 20 (.mv false (.t 6))), (.s 21 (.cl (.c (.func x_strings_IndexByte [] [])) [(.c (.str [123, 125, 59, 91, 93])), (.t 20)])), (.s 7 (.mv true (.t 21)))]) (.block 0 
  (.seq (.r [(.s 30 (.mv false (.t 6))), (.s 31 (.bo .eql 0 (.t 30) (.c (.int .u8 32)))), (.s 32 (.mv true (.t 31))), (.g 32 false 33 (.mv false (.t 6))), (.g 32 false 34 (.bo .eql 0 (.t 33) (.c (.int .u8 10)))), (.s 35 (.pk (.t 32) (.c (.bool true)) (.t 34))), (.s 29 (.mv true (.t 35)))]) (.cond (.t 29) 
  (.seq (.r [(.s 36 (.ld false none (.t 1))), (.s 37 (.cl (.c (.func x_lex_reader_take [] [])) [(.t 36), (.c (.int .i64 1))]))]) 
  (.seq (.r [(.s 38 (.ld false (some 4) (.t 5))), (.n (.st true 4 (.t 2) (.t 38))), (.s 3 (.mv false (.c (.bool false)))), (.s 4 (.mv false (.c (.int .i64 0))))]) .ret)) 
  (.seq (.r [(.s 40 (.mv false (.t 6))), (.s 41 (.bo .eql 0 (.t 40) (.c (.int .u8 35)))), (.s 39 (.mv true (.t 41)))]) (.cond (.t 39) 
  (.seq (.r [(.s 42 (.ld false none (.t 1))), (.s 43 (.ld false none (.t 1))), (.s 44 (.mf x_lex_reader_token_1 [] [(.t 1)])), (.s 45 (.cl (.c (.func x_lex_reader_until [] [])) [(.t 43), (.t 44)])), (.s 46 (.cl (.c (.func x_lex_reader_take [] [])) [(.t 42), (.t 45)]))]) 
  (.seq (.r [(.s 47 (.ld false (some 4) (.t 5))), (.n (.st true 4 (.t 2) (.t 47))), (.s 3 (.mv false (.c (.bool false)))), (.s 4 (.mv false (.c (.int .i64 0))))]) .ret)) 
  (.seq (.r [(.s 49 (.ld false none (.t 1))), (.s 50 (.nc (.t 49))), (.s 51 (.fa (.t 50) 0)), (.s 52 (.ld false none (.t 51))), (.s 53 (.cl (.c (.func x_strings_HasPrefix [] [])) [(.t 52), (.c (.str [47, 42]))])), (.s 48 (.mv true (.t 53)))]) (.cond (.t 48) 
  (.seq (.r [(.s 54 (.ld false none (.t 1))), (.s 55 (.nc (.t 54))), (.s 56 (.fa (.t 55) 0)), (.s 57 (.ld false none (.t 56))), (.s 58 (.sS (.t 57) (some (.c (.int .i64 2))) none)), (.s 59 (.cl (.c (.func x_strings_Index [] [])) [(.t 58), (.c (.str [42, 47]))])), (.s 8 (.mv true (.t 59)))]) 
  (.seq 
  (.seq (.r [(.s 60 (.mv false (.t 8))), (.s 61 (.bo .lss 0 (.t 60) (.c (.int .i64 0))))]) (.cond (.t 61) 
  (.seq (.r [(.s 62 (.ld false (some 4) (.t 5))), (.n (.st true 4 (.t 2) (.t 62))), (.s 3 (.mv false (.c (.bool false)))), (.s 4 (.mv false (.c (.int .i64 71))))]) .ret) .skip)) 
  (.seq (.r [(.s 63 (.ld false none (.t 1))), (.s 64 (.mv false (.t 8))), (.s 65 (.bo .add 0 (.t 64) (.c (.int .i64 4)))), (.s 66 (.cl (.c (.func x_lex_reader_take [] [])) [(.t 63), (.t 65)]))]) 
  (.seq (.r [(.s 67 (.ld false (some 4) (.t 5))), (.n (.st true 4 (.t 2) (.t 67))), (.s 3 (.mv false (.c (.bool false)))), (.s 4 (.mv false (.c (.int .i64 0))))]) .ret)))) 
  (.seq (.r [(.s 69 (.mv false (.t 6))), (.s 70 (.bo .eql 0 (.t 69) (.c (.int .u8 34)))), (.s 68 (.mv true (.t 70)))]) (.cond (.t 68) 
  (.seq (.r [(.s 71 (.ld false none (.t 1))), (.s 72 (.nc (.t 71))), (.s 73 (.fa (.t 72) 0)), (.s 74 (.ld false none (.t 73))), (.s 75 (.sS (.t 74) (some (.c (.int .i64 1))) none)), (.s 76 (.cl (.c (.func x_strings_IndexAny [] [])) [(.t 75), (.c (.str [34, 10]))])), (.s 9 (.mv true (.t 76)))]) 
  (.seq 
  (.seq (.r [(.s 77 (.mv false (.t 9))), (.s 78 (.bo .lss 0 (.t 77) (.c (.int .i64 0)))), (.s 79 (.mv true (.t 78))), (.g 79 false 80 (.ld false none (.t 1))), (.g 79 false 81 (.nc (.t 80))), (.g 79 false 82 (.fa (.t 81) 0)), (.g 79 false 83 (.ld false none (.t 82))), (.g 79 false 84 (.mv false (.t 9))), (.g 79 false 85 (.bo .add 0 (.t 84) (.c (.int .i64 1)))), (.g 79 false 86 (.iS (.t 83) (.t 85))), (.g 79 false 87 (.bo .eql 0 (.t 86) (.c (.int .u8 10)))), (.s 88 (.pk (.t 79) (.c (.bool true)) (.t 87)))]) (.cond (.t 88) 
  (.seq (.r [(.s 89 (.ld false (some 4) (.t 5))), (.n (.st true 4 (.t 2) (.t 89))), (.s 3 (.mv false (.c (.bool false)))), (.s 4 (.mv false (.c (.int .i64 71))))]) .ret) .skip)) (.r [(.s 90 (.ld false none (.t 1))), (.s 91 (.mv false (.t 9))), (.s 92 (.bo .add 0 (.t 91) (.c (.int .i64 2)))), (.s 93 (.cl (.c (.func x_lex_reader_take [] [])) [(.t 90), (.t 92)])), (.s 94 (.mv false (.t 9))), (.s 95 (.bo .add 0 (.t 94) (.c (.int .i64 1)))), (.s 96 (.sS (.t 93) (some (.c (.int .i64 1))) (some (.t 95)))), (.s 97 (.fa (.t 5) 1)), (.n (.st true 1 (.t 97) (.t 96)))]))) 
  (.seq (.r [(.s 99 (.mv false (.t 7))), (.s 100 (.bo .geq 0 (.t 99) (.c (.int .i64 0)))), (.s 98 (.mv true (.t 100)))]) (.cond (.t 98) (.r [(.s 101 (.mv false (.t 7))), (.s 102 (.ci .u8 (.t 101))), (.s 103 (.bo .add 0 (.c (.int .u8 2)) (.t 102))), (.s 104 (.ld false none (.t 1))), (.s 105 (.cl (.c (.func x_lex_reader_take [] [])) [(.t 104), (.c (.int .i64 1))])), (.s 106 (.fa (.t 5) 0)), (.n (.st true 1 (.t 106) (.t 103))), (.s 107 (.fa (.t 5) 1)), (.n (.st true 1 (.t 107) (.t 105)))]) (.r [(.s 22 (.ld false none (.t 1))), (.s 23 (.ld false none (.t 1))), (.s 24 (.ld false none (.t 1))), (.s 25 (.mf x_lex_reader_ends [(.t 24)] [])), (.s 26 (.cl (.c (.func x_lex_reader_until [] [])) [(.t 23), (.t 25)])), (.s 27 (.cl (.c (.func x_lex_reader_take [] [])) [(.t 22), (.t 26)])), (.s 28 (.fa (.t 5) 1)), (.n (.st true 1 (.t 28) (.t 27)))]))))))))))))) 
  (.seq (.r [(.s 108 (.ld false (some 4) (.t 5))), (.n (.st true 4 (.t 2) (.t 108))), (.s 3 (.mv false (.c (.bool true)))), (.s 4 (.mv false (.c (.int .i64 0))))]) .ret))))) [(.c 2 (some 4)), (.t 3), (.t 4)])
def c_tree_reader_next : CF :=
  (.mk 16 
  (.seq (.r [(.s 2 (.mv false (.c (.int .u8 0))))]) 
  (.seq 
  (.seq (.r [(.s 3 (.mv false (.t 0))), (.s 4 (.nc (.t 3))), (.s 5 (.fa (.t 4) 0)), (.s 6 (.ld false none (.t 5))), (.s 7 (.le true (.t 6))), (.s 8 (.bo .eql 0 (.t 7) (.c (.int .i64 0))))]) (.cond (.t 8) 
  (.seq (.r [(.s 2 (.mv false (.c (.int .u8 0))))]) .ret) .skip)) 
  (.seq (.r [(.s 9 (.mv false (.t 0))), (.s 10 (.nc (.t 9))), (.s 11 (.fa (.t 10) 0)), (.s 12 (.ld false none (.t 11))), (.s 13 (.ia 4 (.t 12) (.c (.int .i64 0)))), (.s 14 (.fa (.t 13) 0)), (.s 15 (.ld false none (.t 14))), (.s 2 (.mv true (.t 15)))]) .ret))) [(.t 2)])
def c_tree_reader_fail : CF :=
  (.mk 19 
  (.seq (.r [(.s 5 (.bx false (.t 2)))]) 
  (.seq (.r [(.s 6 (.mv false (.t 0))), (.s 7 (.nc (.t 6))), (.s 8 (.fa (.t 7) 1)), (.s 9 (.ld false none (.t 8))), (.s 10 (.bo .eql 0 (.t 9) (.c (.int .i64 0))))]) (.cond (.t 10) (.a [(.s 11 (.mv false (.t 0))), (.s 12 (.mv false (.t 0))), (.s 13 (.mv false (.t 1))), (.s 14 (.ld false (some 2) (.t 5))), (.s 15 (.nc (.t 11))), (.s 16 (.fa (.t 15) 1)), (.n (.st true 1 (.t 16) (.t 13))), (.s 17 (.nc (.t 12))), (.s 18 (.fa (.t 17) 2)), (.n (.st true 2 (.t 18) (.t 14)))] [(5, 16)]) .skip))) [])
def c_tree_reader_off : CF :=
  (.mk 19 
  (.seq (.r [(.s 2 (.al [(.int .u8 0), (.str []), (.int .i64 0), (.int .i64 0)]))]) 
  (.seq (.r [(.s 4 (.mv false (.t 0))), (.s 5 (.nc (.t 4))), (.s 6 (.fa (.t 5) 0)), (.s 7 (.ld false none (.t 6))), (.s 8 (.ia 4 (.t 7) (.c (.int .i64 0)))), (.s 9 (.ld false (some 4) (.t 8))), (.s 3 (.al [(.int .u8 0), (.str []), (.int .i64 0), (.int .i64 0)])), (.n (.st true 4 (.t 3) (.t 9)))]) 
  (.seq (.r [(.s 10 (.mv false (.t 0))), (.s 11 (.mv false (.t 0))), (.s 12 (.nc (.t 11))), (.s 13 (.fa (.t 12) 0)), (.s 14 (.ld false none (.t 13))), (.s 15 (.sV 4 (.t 14) (some (.c (.int .i64 1))) none)), (.s 16 (.nc (.t 10))), (.s 17 (.fa (.t 16) 0)), (.n (.st true 1 (.t 17) (.t 15)))]) 
  (.seq (.r [(.s 18 (.ld false (some 4) (.t 3))), (.n (.st true 4 (.t 2) (.t 18)))]) .ret)))) [(.c 2 (some 4))])
def l_tree_reader_statement_0 (x_slices_Clone_string x_slices_Clone_api_Pos : Nat) : CC :=
  
  (.seq (.r [(.s 32 (.bo .lss 0 (.t 31) (.t 30)))]) 
  (.seq (.cond (.t 32) .skip (.exit 0)) 
  (.seq (.block 1 
  (.seq (.r [(.s 33 (.mv false (.t 31))), (.s 34 (.ia 1 (.t 29) (.t 31))), (.s 35 (.ld false none (.t 34))), (.s 9 (.mv true (.t 33))), (.s 10 (.mv true (.t 35)))]) (.r [(.s 36 (.mv true (.t 7))), (.s 37 (.fa (.t 6) 0)), (.s 38 (.ld false none (.t 37))), (.s 39 (.cl (.c (.func x_slices_Clone_string [] [])) [(.t 38)])), (.s 40 (.mv false (.t 10))), (.s 41 (.bs false 1 1 [(.str [])] [(0, (.t 40))])), (.s 42 (.ap false 1 16 (.t 39) (.t 41))), (.s 43 (.fa (.t 6) 1)), (.s 44 (.ld false none (.t 43))), (.s 45 (.cl (.c (.func x_slices_Clone_api_Pos [] [])) [(.t 44)])), (.s 46 (.fa (.t 8) 1)), (.s 47 (.ld false none (.t 46))), (.s 48 (.mv false (.t 9))), (.s 49 (.ia 2 (.t 47) (.t 48))), (.s 50 (.ld false (some 2) (.t 49))), (.s 51 (.bs false 1 2 [(.int .i64 0), (.int .i64 0)] [(0, (.t 50))])), (.s 52 (.ap false 2 16 (.t 45) (.t 51))), (.s 53 (.bd true [(.vec true []), (.vec true []), (.bool false), (.vec true [])] [(0, (1, (.t 42))), (1, (1, (.t 52)))])), (.s 54 (.bs false 1 4 [(.vec false []), (.vec false []), (.bool false), (.vec false [])] [(0, (.t 53))])), (.s 55 (.ap false 4 80 (.t 36) (.t 54))), (.s 7 (.mv true (.t 55)))]))) (.r [(.s 56 (.bo .add 0 (.t 31) (.c (.int .i64 1)))), (.s 31 (.mv true (.t 56)))]))))
def c_tree_reader_statement (x_tree_reader_words x_tree_reader_next x_tree_reader_off x_slices_Clone_string x_slices_Clone_api_Pos x_tree_reader_fail x_tree_reader_list : Nat) : CF :=
  (.mk 150 
  (.seq (.r [(.s 4 (.mv false (.c (.vec true []))))]) 
  (.seq (.r [(.s 12 (.mv false (.t 0))), (.s 13 (.nc (.t 12))), (.s 14 (.fa (.t 13) 0)), (.s 15 (.ld false none (.t 14))), (.s 16 (.ia 4 (.t 15) (.c (.int .i64 0)))), (.s 17 (.fa (.t 16) 2)), (.s 18 (.ld false (some 2) (.t 17))), (.s 5 (.al [(.int .i64 0), (.int .i64 0)])), (.n (.st true 2 (.t 5) (.t 18)))]) 
  (.seq (.r [(.s 19 (.mv false (.t 0))), (.s 20 (.cl (.c (.func x_tree_reader_words [] [])) [(.t 19)])), (.s 6 (.al [(.vec true []), (.vec true []), (.bool false), (.vec true [])])), (.n (.st true 4 (.t 6) (.t 20)))]) 
  (.seq (.r [(.s 7 (.mv false (.c (.vec true []))))]) 
  (.seq 
  (.seq (.r [(.s 21 (.mv false (.t 0))), (.s 22 (.cl (.c (.func x_tree_reader_next [] [])) [(.t 21)])), (.s 23 (.bo .eql 0 (.t 22) (.c (.int .u8 5))))]) (.cond (.t 23) 
  (.seq (.r [(.s 24 (.mv false (.t 0))), (.s 25 (.cl (.c (.func x_tree_reader_off [] [])) [(.t 24)]))]) 
  (.seq (.r [(.s 26 (.mv false (.t 0))), (.s 27 (.cl (.c (.func x_tree_reader_words [] [])) [(.t 26)])), (.s 8 (.al [(.vec true []), (.vec true []), (.bool false), (.vec true [])])), (.n (.st true 4 (.t 8) (.t 27)))]) 
  (.seq 
  (.seq (.r [(.s 28 (.fa (.t 8) 0)), (.s 29 (.ld false none (.t 28))), (.s 30 (.le true (.t 29))), (.s 31 (.mv false (.c (.int .i64 0))))]) (.block 0 (.loop (l_tree_reader_statement_0 x_slices_Clone_string x_slices_Clone_api_Pos)))) 
  (.seq (.r [(.s 57 (.mv false (.t 0))), (.s 58 (.cl (.c (.func x_tree_reader_next [] [])) [(.t 57)])), (.s 59 (.bo .eql 0 (.t 58) (.c (.int .u8 6)))), (.s 60 (.mv true (.t 59))), (.g 60 true 61 (.mv false (.t 7))), (.g 60 true 62 (.le true (.t 61))), (.g 60 true 63 (.bo .gtr 0 (.t 62) (.c (.int .i64 0)))), (.s 64 (.pk (.t 60) (.t 63) (.c (.bool false))))]) (.cond (.t 64) (.r [(.s 65 (.mv false (.t 0))), (.s 66 (.cl (.c (.func x_tree_reader_off [] [])) [(.t 65)]))]) 
  (.seq (.r [(.s 67 (.mv false (.t 0))), (.s 68 (.cl (.c (.func x_tree_reader_next [] [])) [(.t 67)])), (.s 69 (.bo .neq 0 (.t 68) (.c (.int .u8 0))))]) (.cond (.t 69) 
  (.seq (.r [(.s 70 (.mv false (.t 0))), (.s 71 (.mv false (.t 0))), (.s 72 (.nc (.t 71))), (.s 73 (.fa (.t 72) 0)), (.s 74 (.ld false none (.t 73))), (.s 75 (.ia 4 (.t 74) (.c (.int .i64 0)))), (.s 76 (.fa (.t 75) 2)), (.s 77 (.ld false (some 2) (.t 76))), (.s 78 (.cl (.c (.func x_tree_reader_fail [] [])) [(.t 70), (.c (.int .i64 130)), (.t 77)]))]) 
  (.seq (.r [(.s 4 (.mv false (.c (.vec true []))))]) .ret)) .skip))))))) .skip)) 
  (.seq (.block 2 
  (.seq (.r [(.s 89 (.mv false (.t 0))), (.s 90 (.cl (.c (.func x_tree_reader_next [] [])) [(.t 89)])), (.s 91 (.bo .eql 0 (.t 90) (.c (.int .u8 0)))), (.s 88 (.mv true (.t 91)))]) (.cond (.t 88) (.r [(.s 92 (.mv false (.t 0))), (.s 93 (.ld false (some 2) (.t 5))), (.s 94 (.cl (.c (.func x_tree_reader_fail [] [])) [(.t 92), (.c (.int .i64 71)), (.t 93)]))]) 
  (.seq (.r [(.s 96 (.mv false (.t 0))), (.s 97 (.cl (.c (.func x_tree_reader_next [] [])) [(.t 96)])), (.s 98 (.bo .eql 0 (.t 97) (.c (.int .u8 4)))), (.s 95 (.mv true (.t 98)))]) (.cond (.t 95) 
  (.seq (.r [(.s 99 (.mv false (.t 0))), (.s 100 (.cl (.c (.func x_tree_reader_off [] [])) [(.t 99)]))]) 
  (.seq 
  (.seq (.r [(.s 101 (.mv false (.t 7))), (.s 102 (.le true (.t 101))), (.s 103 (.bo .gtr 0 (.t 102) (.c (.int .i64 0))))]) (.cond (.t 103) 
  (.seq (.r [(.s 104 (.mv false (.t 7))), (.s 4 (.mv true (.t 104)))]) .ret) .skip)) 
  (.seq (.r [(.s 105 (.ld false (some 4) (.t 6))), (.s 106 (.bs false 1 4 [(.vec false []), (.vec false []), (.bool false), (.vec false [])] [(0, (.t 105))])), (.s 4 (.mv true (.t 106)))]) .ret))) 
  (.seq (.r [(.s 108 (.mv false (.t 0))), (.s 109 (.cl (.c (.func x_tree_reader_next [] [])) [(.t 108)])), (.s 110 (.bo .eql 0 (.t 109) (.c (.int .u8 2)))), (.s 111 (.mv true (.t 110))), (.g 111 true 112 (.mv false (.t 7))), (.g 111 true 113 (.le true (.t 112))), (.g 111 true 114 (.bo .eql 0 (.t 113) (.c (.int .i64 0)))), (.s 115 (.pk (.t 111) (.t 114) (.c (.bool false)))), (.s 116 (.mv true (.t 115))), (.g 116 true 117 (.mv false (.t 1))), (.g 116 true 118 (.bo .eql 0 (.t 117) (.c (.int .i64 32)))), (.s 119 (.pk (.t 116) (.t 118) (.c (.bool false)))), (.s 107 (.mv true (.t 119)))]) (.cond (.t 107) (.r [(.s 120 (.mv false (.t 0))), (.s 121 (.mv false (.t 0))), (.s 122 (.nc (.t 121))), (.s 123 (.fa (.t 122) 0)), (.s 124 (.ld false none (.t 123))), (.s 125 (.ia 4 (.t 124) (.c (.int .i64 0)))), (.s 126 (.fa (.t 125) 2)), (.s 127 (.ld false (some 2) (.t 126))), (.s 128 (.cl (.c (.func x_tree_reader_fail [] [])) [(.t 120), (.c (.int .i64 140)), (.t 127)]))]) 
  (.seq (.r [(.s 130 (.mv false (.t 0))), (.s 131 (.cl (.c (.func x_tree_reader_next [] [])) [(.t 130)])), (.s 132 (.bo .eql 0 (.t 131) (.c (.int .u8 2)))), (.s 133 (.mv true (.t 132))), (.g 133 true 134 (.mv false (.t 7))), (.g 133 true 135 (.le true (.t 134))), (.g 133 true 136 (.bo .eql 0 (.t 135) (.c (.int .i64 0)))), (.s 137 (.pk (.t 133) (.t 136) (.c (.bool false)))), (.s 129 (.mv true (.t 137)))]) (.cond (.t 129) 
  (.seq (.r [(.s 138 (.mv false (.t 0))), (.s 139 (.cl (.c (.func x_tree_reader_off [] [])) [(.t 138)])), (.s 11 (.al [(.int .u8 0), (.str []), (.int .i64 0), (.int .i64 0)])), (.n (.st true 4 (.t 11) (.t 139)))]) 
  (.seq (.r [(.s 140 (.fa (.t 6) 2)), (.n (.st false 1 (.t 140) (.c (.bool true))))]) 
  (.seq (.r [(.s 141 (.mv false (.t 0))), (.s 142 (.mv false (.t 1))), (.s 143 (.bo .add 0 (.t 142) (.c (.int .i64 1)))), (.s 144 (.fa (.t 11) 2)), (.s 145 (.ld false (some 2) (.t 144))), (.s 146 (.cl (.c (.func x_tree_reader_list [] [])) [(.t 141), (.t 143), (.t 145)])), (.s 147 (.fa (.t 6) 3)), (.n (.st true 1 (.t 147) (.t 146)))]) 
  (.seq (.r [(.s 148 (.ld false (some 4) (.t 6))), (.s 149 (.bs false 1 4 [(.vec false []), (.vec false []), (.bool false), (.vec false [])] [(0, (.t 148))])), (.s 4 (.mv true (.t 149)))]) .ret)))) (.r [(.s 79 (.mv false (.t 0))), (.s 80 (.mv false (.t 0))), (.s 81 (.nc (.t 80))), (.s 82 (.fa (.t 81) 0)), (.s 83 (.ld false none (.t 82))), (.s 84 (.ia 4 (.t 83) (.c (.int .i64 0)))), (.s 85 (.fa (.t 84) 2)), (.s 86 (.ld false (some 2) (.t 85))), (.s 87 (.cl (.c (.func x_tree_reader_fail [] [])) [(.t 79), (.c (.int .i64 130)), (.t 86)]))])))))))))) 
  (.seq (.r [(.s 4 (.mv false (.c (.vec true []))))]) .ret))))))) [(.t 4)])
def l_tree_quoted_0 : CC :=
  
  (.seq (.r [(.s 10 (.bo .lss 0 (.t 9) (.t 8)))]) 
  (.seq (.cond (.t 10) .skip (.exit 0)) 
  (.seq (.block 1 
  (.seq (.r [(.s 11 (.ia 1 (.t 7) (.t 9))), (.s 12 (.ld false none (.t 11))), (.s 5 (.mv true (.t 12)))]) 
  (.seq (.r [(.s 13 (.mv false (.t 5))), (.s 14 (.bo .lss 0 (.t 13) (.c (.int .u8 32)))), (.s 15 (.mv true (.t 14))), (.g 15 false 16 (.mv false (.t 5))), (.g 15 false 17 (.bo .gtr 0 (.t 16) (.c (.int .u8 126)))), (.s 18 (.pk (.t 15) (.c (.bool true)) (.t 17))), (.s 19 (.mv true (.t 18))), (.g 19 false 20 (.mv false (.t 5))), (.g 19 false 21 (.bo .eql 0 (.t 20) (.c (.int .u8 34)))), (.s 22 (.pk (.t 19) (.c (.bool true)) (.t 21)))]) (.cond (.t 22) 
  (.seq (.r [(.s 2 (.mv false (.c (.str [])))), (.s 3 (.mv false (.c (.bool false))))]) .ret) .skip)))) (.r [(.s 23 (.bo .add 0 (.t 9) (.c (.int .i64 1)))), (.s 9 (.mv true (.t 23)))]))))
def c_tree_quoted (x_strings_ContainsAny x_strings_Contains : Nat) : CF :=
  (.mk 38 
  (.seq (.r [(.s 2 (.mv false (.c (.str [])))), (.s 3 (.mv false (.c (.bool false))))]) 
  (.seq 
  (.seq (.r [(.s 6 (.mv false (.t 0))), (.s 7 (.cb (.t 6))), (.s 8 (.le true (.t 7))), (.s 9 (.mv false (.c (.int .i64 0))))]) (.block 0 (.loop l_tree_quoted_0))) 
  (.seq 
  (.seq (.r [(.s 24 (.mv false (.t 0))), (.s 25 (.bo .eql 0 (.t 24) (.c (.str [])))), (.s 26 (.mv true (.t 25))), (.g 26 false 27 (.mv false (.t 0))), (.g 26 false 28 (.cl (.c (.func x_strings_ContainsAny [] [])) [(.t 27), (.c (.str [32, 123, 125, 59, 91, 93, 35]))])), (.s 29 (.pk (.t 26) (.c (.bool true)) (.t 28))), (.s 30 (.mv true (.t 29))), (.g 30 false 31 (.mv false (.t 0))), (.g 30 false 32 (.cl (.c (.func x_strings_Contains [] [])) [(.t 31), (.c (.str [47, 42]))])), (.s 33 (.pk (.t 30) (.c (.bool true)) (.t 32)))]) (.cond (.t 33) 
  (.seq (.r [(.s 34 (.mv false (.t 0))), (.s 35 (.bo .add 0 (.c (.str [34])) (.t 34))), (.s 36 (.bo .add 0 (.t 35) (.c (.str [34])))), (.s 2 (.mv true (.t 36))), (.s 3 (.mv false (.c (.bool true))))]) .ret) .skip)) 
  (.seq (.r [(.s 37 (.mv false (.t 0))), (.s 2 (.mv true (.t 37))), (.s 3 (.mv false (.c (.bool true))))]) .ret)))) [(.t 2), (.t 3)])
def c_strings_Builder_WriteString (x_strings_Builder_copyCheck : Nat) : CF :=
  (.mk 19 
  (.seq (.r [(.s 4 (.mv false (.c (.int .i64 0)))), (.s 5 (.mv false (.c .undef)))]) 
  (.seq (.r [(.s 6 (.mv false (.t 0))), (.s 7 (.cl (.c (.func x_strings_Builder_copyCheck [] [])) [(.t 6)]))]) 
  (.seq (.r [(.s 8 (.mv false (.t 0))), (.s 9 (.mv false (.t 0))), (.s 10 (.nc (.t 9))), (.s 11 (.fa (.t 10) 1)), (.s 12 (.ld true none (.t 11))), (.s 13 (.mv false (.t 1))), (.s 14 (.ap false 1 1 (.t 12) (.t 13))), (.s 15 (.nc (.t 8))), (.s 16 (.fa (.t 15) 1)), (.n (.st true 1 (.t 16) (.t 14)))]) 
  (.seq (.r [(.s 17 (.mv false (.t 1))), (.s 18 (.le false (.t 17))), (.s 4 (.mv true (.t 18))), (.s 5 (.mv false (.c .undef)))]) .ret)))) [(.t 4), (.t 5)])
def c_slices_Clone_string : CF :=
  (.mk 8 
  (.seq (.r [(.s 2 (.mv false (.c (.vec true []))))]) 
  (.seq 
  (.seq (.r [(.s 3 (.mv false (.t 0))), (.s 4 (.bo .eql 0 (.t 3) (.c (.vec true []))))]) (.cond (.t 4) 
  (.seq (.r [(.s 2 (.mv false (.c (.vec true []))))]) .ret) .skip)) 
  (.seq (.r [(.s 5 (.bs false 0 1 [(.str [])] [])), (.s 6 (.mv false (.t 0))), (.s 7 (.ap false 1 16 (.t 5) (.t 6))), (.s 2 (.mv true (.t 7)))]) .ret))) [(.t 2)])
def c_slices_Clone_api_Pos : CF :=
  (.mk 8 
  (.seq (.r [(.s 2 (.mv false (.c (.vec true []))))]) 
  (.seq 
  (.seq (.r [(.s 3 (.mv false (.t 0))), (.s 4 (.bo .eql 0 (.t 3) (.c (.vec true []))))]) (.cond (.t 4) 
  (.seq (.r [(.s 2 (.mv false (.c (.vec true []))))]) .ret) .skip)) 
  (.seq (.r [(.s 5 (.bs false 0 2 [(.int .i64 0), (.int .i64 0)] [])), (.s 6 (.mv false (.t 0))), (.s 7 (.ap false 2 16 (.t 5) (.t 6))), (.s 2 (.mv true (.t 7)))]) .ret))) [(.t 2)])
def l_ref07_Check_0 (x_ref07_at : Nat) : CC :=
  
  (.seq 
  (.seq (.r [(.s 10 (.mv false (.t 5))), (.s 11 (.mv false (.t 0))), (.s 12 (.le false (.t 11))), (.s 13 (.bo .lss 0 (.t 10) (.t 12)))]) (.cond (.t 13) .skip (.exit 0))) 
  (.seq (.block 1 
  (.seq 
  (.seq (.r [(.s 16 (.mv false (.t 4))), (.s 17 (.bo .gtr 0 (.t 16) (.c (.int .i64 4096))))]) (.cond (.t 17) 
  (.seq (.r [(.s 18 (.mv false (.t 0))), (.s 19 (.mv false (.t 5))), (.s 20 (.cl (.c (.func x_ref07_at [] [])) [(.t 18), (.t 19)])), (.n (.st true 2 (.t 2) (.t 20))), (.s 3 (.mv false (.c (.int .i64 3))))]) .ret) .skip)) 
  (.seq (.r [(.s 21 (.mv false (.t 0))), (.s 22 (.mv false (.t 5))), (.s 23 (.iS (.t 21) (.t 22))), (.s 24 (.bo .eql 0 (.t 23) (.c (.int .u8 10))))]) (.cond (.t 24) (.r [(.s 25 (.mv false (.t 4))), (.s 26 (.bo .add 0 (.t 25) (.c (.int .i64 1)))), (.s 4 (.mv true (.t 26)))]) 
  (.seq (.r [(.s 27 (.mv false (.t 0))), (.s 28 (.mv false (.t 5))), (.s 29 (.iS (.t 27) (.t 28))), (.s 30 (.bo .lss 0 (.t 29) (.c (.int .u8 32)))), (.s 31 (.mv true (.t 30))), (.g 31 false 32 (.mv false (.t 0))), (.g 31 false 33 (.mv false (.t 5))), (.g 31 false 34 (.iS (.t 32) (.t 33))), (.g 31 false 35 (.bo .gtr 0 (.t 34) (.c (.int .u8 126)))), (.s 36 (.pk (.t 31) (.c (.bool true)) (.t 35)))]) (.cond (.t 36) 
  (.seq (.r [(.s 37 (.mv false (.t 0))), (.s 38 (.mv false (.t 5))), (.s 39 (.cl (.c (.func x_ref07_at [] [])) [(.t 37), (.t 38)])), (.n (.st true 2 (.t 2) (.t 39))), (.s 3 (.mv false (.c (.int .i64 70))))]) .ret) .skip)))))) (.r [(.s 14 (.mv false (.t 5))), (.s 15 (.bo .add 0 (.t 14) (.c (.int .i64 1)))), (.s 5 (.mv true (.t 15)))])))
def c_ref07_Check (x_ref07_at : Nat) : CF :=
  (.mk 41 
  (.seq (.r [(.s 2 (.al [(.int .i64 0), (.int .i64 0)])), (.s 3 (.mv false (.c (.int .i64 0))))]) 
  (.seq 
  (.seq (.r [(.s 6 (.mv false (.t 0))), (.s 7 (.le false (.t 6))), (.s 8 (.bo .gtr 0 (.t 7) (.c (.int .i64 65536))))]) (.cond (.t 8) 
  (.seq (.r [(.s 9 (.bd true [(.int .i64 0), (.int .i64 0)] [])), (.n (.st true 2 (.t 2) (.t 9))), (.s 3 (.mv false (.c (.int .i64 3))))]) .ret) .skip)) 
  (.seq (.r [(.s 4 (.mv false (.c (.int .i64 1))))]) 
  (.seq 
  (.seq (.r [(.s 5 (.mv false (.c (.int .i64 0))))]) (.block 0 (.loop (l_ref07_Check_0 x_ref07_at)))) 
  (.seq (.r [(.s 40 (.bd true [(.int .i64 0), (.int .i64 0)] [])), (.n (.st true 2 (.t 2) (.t 40))), (.s 3 (.mv false (.c (.int .i64 0))))]) .ret))))) [(.c 2 (some 2)), (.t 3)])
def c_ref07_begins : CF :=
  (.mk 23 
  (.seq (.r [(.s 4 (.mv false (.c (.bool false))))]) 
  (.seq (.r [(.s 5 (.mv false (.t 1))), (.s 6 (.bo .add 0 (.t 5) (.c (.int .i64 1)))), (.s 7 (.mv false (.t 0))), (.s 8 (.le false (.t 7))), (.s 9 (.bo .lss 0 (.t 6) (.t 8))), (.s 10 (.mv true (.t 9))), (.g 10 true 11 (.mv false (.t 0))), (.g 10 true 12 (.mv false (.t 1))), (.g 10 true 13 (.iS (.t 11) (.t 12))), (.g 10 true 14 (.bo .eql 0 (.t 13) (.c (.int .u8 47)))), (.s 15 (.pk (.t 10) (.t 14) (.c (.bool false)))), (.s 16 (.mv true (.t 15))), (.g 16 true 17 (.mv false (.t 0))), (.g 16 true 18 (.mv false (.t 1))), (.g 16 true 19 (.bo .add 0 (.t 18) (.c (.int .i64 1)))), (.g 16 true 20 (.iS (.t 17) (.t 19))), (.g 16 true 21 (.bo .eql 0 (.t 20) (.c (.int .u8 42)))), (.s 22 (.pk (.t 16) (.t 21) (.c (.bool false)))), (.s 4 (.mv true (.t 22)))]) .ret)) [(.t 4)])
def l_ref07_closed_0 : CC :=
  
  (.seq 
  (.seq (.r [(.s 33 (.mv false (.t 6))), (.s 34 (.bo .add 0 (.t 33) (.c (.int .i64 1)))), (.s 35 (.mv false (.t 0))), (.s 36 (.le false (.t 35))), (.s 37 (.bo .lss 0 (.t 34) (.t 36)))]) (.cond (.t 37) .skip (.exit 2))) 
  (.seq (.block 3 
  (.seq (.r [(.s 40 (.mv false (.t 0))), (.s 41 (.mv false (.t 6))), (.s 42 (.iS (.t 40) (.t 41))), (.s 43 (.bo .eql 0 (.t 42) (.c (.int .u8 42)))), (.s 44 (.mv true (.t 43))), (.g 44 true 45 (.mv false (.t 0))), (.g 44 true 46 (.mv false (.t 6))), (.g 44 true 47 (.bo .add 0 (.t 46) (.c (.int .i64 1)))), (.g 44 true 48 (.iS (.t 45) (.t 47))), (.g 44 true 49 (.bo .eql 0 (.t 48) (.c (.int .u8 47)))), (.s 50 (.pk (.t 44) (.t 49) (.c (.bool false))))]) (.cond (.t 50) 
  (.seq (.r [(.s 51 (.mv false (.t 6))), (.s 52 (.bo .add 0 (.t 51) (.c (.int .i64 2)))), (.s 4 (.mv true (.t 52)))]) .ret) .skip))) (.r [(.s 38 (.mv false (.t 6))), (.s 39 (.bo .add 0 (.t 38) (.c (.int .i64 1)))), (.s 6 (.mv true (.t 39)))])))
def l_ref07_closed_1 : CC :=
  
  (.seq 
  (.seq (.r [(.s 13 (.mv false (.t 5))), (.s 14 (.mv false (.t 0))), (.s 15 (.le false (.t 14))), (.s 16 (.bo .lss 0 (.t 13) (.t 15))), (.s 17 (.mv true (.t 16))), (.g 17 true 18 (.mv false (.t 0))), (.g 17 true 19 (.mv false (.t 5))), (.g 17 true 20 (.iS (.t 18) (.t 19))), (.g 17 true 21 (.bo .neq 0 (.t 20) (.c (.int .u8 10)))), (.s 22 (.pk (.t 17) (.t 21) (.c (.bool false))))]) (.cond (.t 22) .skip (.exit 0))) 
  (.seq (.block 1 
  (.seq (.r [(.s 25 (.mv false (.t 0))), (.s 26 (.mv false (.t 5))), (.s 27 (.iS (.t 25) (.t 26))), (.s 28 (.bo .eql 0 (.t 27) (.c (.int .u8 34))))]) (.cond (.t 28) 
  (.seq (.r [(.s 29 (.mv false (.t 5))), (.s 30 (.bo .add 0 (.t 29) (.c (.int .i64 1)))), (.s 4 (.mv true (.t 30)))]) .ret) .skip))) (.r [(.s 23 (.mv false (.t 5))), (.s 24 (.bo .add 0 (.t 23) (.c (.int .i64 1)))), (.s 5 (.mv true (.t 24)))])))
def c_ref07_closed : CF :=
  (.mk 53 
  (.seq (.r [(.s 4 (.mv false (.c (.int .i64 0))))]) 
  (.seq 
  (.seq (.r [(.s 7 (.mv false (.t 0))), (.s 8 (.mv false (.t 1))), (.s 9 (.iS (.t 7) (.t 8))), (.s 10 (.bo .eql 0 (.t 9) (.c (.int .u8 34))))]) (.cond (.t 10) 
  (.seq 
  (.seq (.r [(.s 11 (.mv false (.t 1))), (.s 12 (.bo .add 0 (.t 11) (.c (.int .i64 1)))), (.s 5 (.mv true (.t 12)))]) (.block 0 (.loop l_ref07_closed_1))) 
  (.seq (.r [(.s 4 (.mv false (.c (.int .i64 (-1)))))]) .ret)) .skip)) 
  (.seq 
  (.seq (.r [(.s 31 (.mv false (.t 1))), (.s 32 (.bo .add 0 (.t 31) (.c (.int .i64 2)))), (.s 6 (.mv true (.t 32)))]) (.block 2 (.loop l_ref07_closed_0))) 
  (.seq (.r [(.s 4 (.mv false (.c (.int .i64 (-1)))))]) .ret)))) [(.t 4)])
def l_ref07_at_0 : CC :=
  
  (.seq 
  (.seq (.r [(.s 8 (.mv false (.t 6))), (.s 9 (.mv false (.t 1))), (.s 10 (.bo .lss 0 (.t 8) (.t 9)))]) (.cond (.t 10) .skip (.exit 0))) 
  (.seq (.block 1 
  (.seq (.r [(.s 13 (.fa (.t 5) 1)), (.s 14 (.ld false none (.t 13))), (.s 15 (.bo .add 0 (.t 14) (.c (.int .i64 1)))), (.s 16 (.fa (.t 5) 1)), (.n (.st true 1 (.t 16) (.t 15)))]) 
  (.seq (.r [(.s 17 (.mv false (.t 0))), (.s 18 (.mv false (.t 6))), (.s 19 (.iS (.t 17) (.t 18))), (.s 20 (.bo .eql 0 (.t 19) (.c (.int .u8 10))))]) (.cond (.t 20) 
  (.seq (.r [(.s 21 (.fa (.t 5) 0)), (.s 22 (.ld false none (.t 21))), (.s 23 (.bo .add 0 (.t 22) (.c (.int .i64 1)))), (.s 24 (.fa (.t 5) 0)), (.n (.st true 1 (.t 24) (.t 23)))]) (.r [(.s 25 (.fa (.t 5) 1)), (.n (.st false 1 (.t 25) (.c (.int .i64 1))))])) .skip)))) (.r [(.s 11 (.mv false (.t 6))), (.s 12 (.bo .add 0 (.t 11) (.c (.int .i64 1)))), (.s 6 (.mv true (.t 12)))])))
def c_ref07_at : CF :=
  (.mk 27 
  (.seq (.r [(.s 4 (.al [(.int .i64 0), (.int .i64 0)]))]) 
  (.seq (.r [(.s 7 (.bd true [(.int .i64 0), (.int .i64 0)] [(0, (1, (.c (.int .i64 1)))), (1, (1, (.c (.int .i64 1))))])), (.s 5 (.al [(.int .i64 0), (.int .i64 0)])), (.n (.st true 2 (.t 5) (.t 7)))]) 
  (.seq 
  (.seq (.r [(.s 6 (.mv false (.c (.int .i64 0))))]) (.block 0 (.loop l_ref07_at_0))) 
  (.seq (.r [(.s 26 (.ld false (some 2) (.t 5))), (.n (.st true 2 (.t 4) (.t 26)))]) .ret)))) [(.c 4 (some 2))])
def c_ref07_sign : CF :=
  (.mk 14 
  (.seq (.r [(.s 2 (.mv false (.c (.int .u8 0))))]) 
  (.seq 
  (.seq (.r [(.s 3 (.mv false (.t 0)))]) (.block 0 
  (.seq (.r [(.s 5 (.bo .eql 0 (.t 3) (.c (.int .u8 123)))), (.s 4 (.mv true (.t 5)))]) (.cond (.t 4) 
  (.seq (.r [(.s 2 (.mv false (.c (.int .u8 2))))]) .ret) 
  (.seq (.r [(.s 7 (.bo .eql 0 (.t 3) (.c (.int .u8 125)))), (.s 6 (.mv true (.t 7)))]) (.cond (.t 6) 
  (.seq (.r [(.s 2 (.mv false (.c (.int .u8 3))))]) .ret) 
  (.seq (.r [(.s 9 (.bo .eql 0 (.t 3) (.c (.int .u8 59)))), (.s 8 (.mv true (.t 9)))]) (.cond (.t 8) 
  (.seq (.r [(.s 2 (.mv false (.c (.int .u8 4))))]) .ret) 
  (.seq (.r [(.s 11 (.bo .eql 0 (.t 3) (.c (.int .u8 91)))), (.s 10 (.mv true (.t 11)))]) (.cond (.t 10) 
  (.seq (.r [(.s 2 (.mv false (.c (.int .u8 5))))]) .ret) 
  (.seq (.r [(.s 13 (.bo .eql 0 (.t 3) (.c (.int .u8 93)))), (.s 12 (.mv true (.t 13)))]) (.cond (.t 12) 
  (.seq (.r [(.s 2 (.mv false (.c (.int .u8 6))))]) .ret) .skip)))))))))))) 
  (.seq (.r [(.s 2 (.mv false (.c (.int .u8 0))))]) .ret))) [(.t 2)])
def c_ref14_state_word : CF :=
  (.mk 49 
  (.seq (.r [(.s 3 (.bx false (.t 1))), (.s 4 (.al [(.int .i64 0), (.vec true []), (.vec true []), (.bool false)]))]) 
  (.seq (.r [(.s 5 (.bs false 0 1 [(.str [])] [])), (.s 6 (.fa (.t 3) 1)), (.s 7 (.ld false none (.t 6))), (.s 8 (.ap false 1 16 (.t 5) (.t 7))), (.s 9 (.mv false (.t 0))), (.s 10 (.nc (.t 9))), (.s 11 (.fa (.t 10) 0)), (.s 12 (.ld false none (.t 11))), (.s 13 (.mv false (.t 0))), (.s 14 (.nc (.t 13))), (.s 15 (.fa (.t 14) 1)), (.s 16 (.ld false none (.t 15))), (.s 17 (.ia 4 (.t 12) (.t 16))), (.s 18 (.fa (.t 17) 1)), (.s 19 (.ld false none (.t 18))), (.s 20 (.bs false 1 1 [(.str [])] [(0, (.t 19))])), (.s 21 (.ap false 1 16 (.t 8) (.t 20))), (.s 22 (.fa (.t 3) 1)), (.n (.st true 1 (.t 22) (.t 21)))]) 
  (.seq (.r [(.s 23 (.bs false 0 2 [(.int .i64 0), (.int .i64 0)] [])), (.s 24 (.fa (.t 3) 2)), (.s 25 (.ld false none (.t 24))), (.s 26 (.ap false 2 16 (.t 23) (.t 25))), (.s 27 (.mv false (.t 0))), (.s 28 (.nc (.t 27))), (.s 29 (.fa (.t 28) 0)), (.s 30 (.ld false none (.t 29))), (.s 31 (.mv false (.t 0))), (.s 32 (.nc (.t 31))), (.s 33 (.fa (.t 32) 1)), (.s 34 (.ld false none (.t 33))), (.s 35 (.ia 4 (.t 30) (.t 34))), (.s 36 (.fa (.t 35) 2)), (.s 37 (.ld false (some 2) (.t 36))), (.s 38 (.bs false 1 2 [(.int .i64 0), (.int .i64 0)] [(0, (.t 37))])), (.s 39 (.ap false 2 16 (.t 26) (.t 38))), (.s 40 (.fa (.t 3) 2)), (.n (.st true 1 (.t 40) (.t 39)))]) 
  (.seq (.r [(.s 41 (.mv false (.t 0))), (.s 42 (.nc (.t 41))), (.s 43 (.fa (.t 42) 1)), (.s 44 (.ld false none (.t 43))), (.s 45 (.bo .add 0 (.t 44) (.c (.int .i64 1)))), (.s 46 (.nc (.t 41))), (.s 47 (.fa (.t 46) 1)), (.n (.st true 1 (.t 47) (.t 45)))]) 
  (.seq (.r [(.s 48 (.ld false (some 4) (.t 3))), (.n (.st true 4 (.t 4) (.t 48)))]) .ret))))) [(.c 4 (some 4))])
def c_tree_outer : CF :=
  (.mk 18 
  (.seq (.r [(.s 1 (.bx false (.t 0))), (.s 2 (.mv false (.c (.bool false))))]) 
  (.seq (.r [(.s 3 (.fa (.t 1) 2)), (.s 4 (.ld false none (.t 3))), (.s 5 (.mv true (.t 4))), (.g 5 true 6 (.fa (.t 1) 0)), (.g 5 true 7 (.ld false none (.t 6))), (.g 5 true 8 (.le true (.t 7))), (.g 5 true 9 (.bo .eql 0 (.t 8) (.c (.int .i64 1)))), (.s 10 (.pk (.t 5) (.t 9) (.c (.bool false)))), (.s 11 (.mv true (.t 10))), (.g 11 true 12 (.fa (.t 1) 0)), (.g 11 true 13 (.ld false none (.t 12))), (.g 11 true 14 (.ia 1 (.t 13) (.c (.int .i64 0)))), (.g 11 true 15 (.ld false none (.t 14))), (.g 11 true 16 (.bo .eql 0 (.t 15) (.c (.str [103, 114, 111, 117, 112, 115])))), (.s 17 (.pk (.t 11) (.t 16) (.c (.bool false)))), (.s 2 (.mv true (.t 17)))]) .ret)) [(.t 2)])
def l_tree_book_0 : CC :=
  
  (.seq (.r [(.s 16 (.bo .lss 0 (.t 15) (.t 14)))]) 
  (.seq (.cond (.t 16) .skip (.exit 0)) 
  (.seq (.block 1 
  (.seq (.r [(.s 17 (.ia 4 (.t 13) (.t 15))), (.s 18 (.ld false (some 4) (.t 17))), (.s 8 (.al [(.vec true []), (.vec true []), (.bool false), (.vec true [])])), (.n (.st true 4 (.t 8) (.t 18)))]) 
  (.seq 
  (.seq (.r [(.s 19 (.fa (.t 8) 2)), (.s 20 (.ld false none (.t 19))), (.s 21 (.uo .not (.t 20))), (.s 22 (.mv true (.t 21))), (.g 22 false 23 (.fa (.t 8) 0)), (.g 22 false 24 (.ld false none (.t 23))), (.g 22 false 25 (.le true (.t 24))), (.g 22 false 26 (.bo .neq 0 (.t 25) (.c (.int .i64 1)))), (.s 27 (.pk (.t 22) (.c (.bool true)) (.t 26)))]) (.cond (.t 27) 
  (.seq (.r [(.s 28 (.fa (.t 8) 1)), (.s 29 (.ld false none (.t 28))), (.s 30 (.ia 2 (.t 29) (.c (.int .i64 0)))), (.s 31 (.ld false (some 2) (.t 30))), (.s 2 (.mv false (.c .nilm))), (.n (.st true 2 (.t 3) (.t 31))), (.s 4 (.mv false (.c (.int .i64 130))))]) .ret) .skip)) 
  (.seq 
  (.seq (.r [(.s 33 (.ld false none (.t 6))), (.s 34 (.fa (.t 8) 3)), (.s 35 (.ld false none (.t 34))), (.s 36 (.cl (.t 33) [(.t 35)])), (.s 32 (.mv true (.t 36))), (.s 37 (.ex (.t 32) 0)), (.s 38 (.ex (.t 32) 1)), (.s 9 (.al [(.int .i64 0), (.int .i64 0)])), (.n (.st true 2 (.t 9) (.t 37))), (.s 10 (.mv true (.t 38)))]) 
  (.seq (.r [(.s 39 (.mv false (.t 10))), (.s 40 (.bo .neq 0 (.t 39) (.c (.int .i64 0))))]) (.cond (.t 40) 
  (.seq (.r [(.s 41 (.ld false (some 2) (.t 9))), (.s 42 (.mv false (.t 10))), (.s 2 (.mv false (.c .nilm))), (.n (.st true 2 (.t 3) (.t 41))), (.s 4 (.mv true (.t 42)))]) .ret) .skip))) (.r [(.s 43 (.mv false (.t 5))), (.s 44 (.fa (.t 8) 0)), (.s 45 (.ld false none (.t 44))), (.s 46 (.ia 1 (.t 45) (.c (.int .i64 0)))), (.s 47 (.ld false none (.t 46))), (.s 48 (.fa (.t 8) 3)), (.s 49 (.ld false none (.t 48))), (.n (.mu .string (.t 43) (.t 47) (.t 49)))]))))) (.r [(.s 50 (.bo .add 0 (.t 15) (.c (.int .i64 1)))), (.s 15 (.mv true (.t 50)))]))))
def c_tree_book (x_tree_book_1 : Nat) : CF :=
  (.mk 53 
  (.seq (.r [(.s 2 (.mv false (.c .nilm))), (.s 3 (.al [(.int .i64 0), (.int .i64 0)])), (.s 4 (.mv false (.c (.int .i64 0))))]) 
  (.seq (.r [(.s 11 .mm), (.s 5 (.mv true (.t 11)))]) 
  (.seq (.r [(.s 6 (.al [.nilf]))]) 
  (.seq (.r [(.s 12 (.mf x_tree_book_1 [] [(.t 6)])), (.n (.st true 1 (.t 6) (.t 12)))]) 
  (.seq 
  (.seq (.r [(.s 13 (.mv false (.t 0))), (.s 14 (.le true (.t 13))), (.s 15 (.mv false (.c (.int .i64 0))))]) (.block 0 (.loop l_tree_book_0))) 
  (.seq (.r [(.s 51 (.mv false (.t 5))), (.s 52 (.bd true [(.int .i64 0), (.int .i64 0)] [])), (.s 2 (.mv true (.t 51))), (.n (.st true 2 (.t 3) (.t 52))), (.s 4 (.mv false (.c (.int .i64 0))))]) .ret)))))) [(.t 2), (.c 3 (some 2)), (.t 4)])
def l_tree_known_0 : CC :=
  
  (.seq (.r [(.s 39 (.bo .lss 0 (.t 38) (.t 37)))]) 
  (.seq (.cond (.t 39) .skip (.exit 2)) 
  (.seq (.block 3 
  (.seq (.r [(.s 40 (.mv false (.t 38))), (.s 41 (.ia 1 (.t 36) (.t 38))), (.s 42 (.ld false none (.t 41))), (.s 8 (.mv true (.t 40))), (.s 9 (.mv true (.t 42)))]) 
  (.seq (.r [(.s 44 (.mv false (.t 1))), (.s 45 (.mv false (.t 9))), (.s 46 (.lu .string (.vec false []) (.t 44) (.t 45) true)), (.s 43 (.mv true (.t 46))), (.s 47 (.ex (.t 43) 0)), (.s 48 (.ex (.t 43) 1)), (.s 10 (.mv true (.t 47))), (.s 11 (.mv true (.t 48)))]) 
  (.seq (.r [(.s 49 (.mv false (.t 11))), (.s 50 (.uo .not (.t 49)))]) (.cond (.t 50) 
  (.seq (.r [(.s 51 (.fa (.t 7) 1)), (.s 52 (.ld false none (.t 51))), (.s 53 (.mv false (.t 8))), (.s 54 (.bo .add 0 (.t 53) (.c (.int .i64 1)))), (.s 55 (.ia 2 (.t 52) (.t 54))), (.s 56 (.ld false (some 2) (.t 55))), (.n (.st true 2 (.t 4) (.t 56))), (.s 5 (.mv false (.c (.int .i64 120))))]) .ret) .skip))))) (.r [(.s 57 (.bo .add 0 (.t 38) (.c (.int .i64 1)))), (.s 38 (.mv true (.t 57)))]))))
def l_tree_known_1 (x_tree_applies x_tree_known : Nat) : CC :=
  
  (.seq (.r [(.s 17 (.bo .lss 0 (.t 16) (.t 15)))]) 
  (.seq (.cond (.t 17) .skip (.exit 0)) 
  (.seq (.block 1 
  (.seq (.r [(.s 18 (.ia 4 (.t 14) (.t 16))), (.s 19 (.ld false (some 4) (.t 18))), (.s 7 (.al [(.vec true []), (.vec true []), (.bool false), (.vec true [])])), (.n (.st true 4 (.t 7) (.t 19)))]) 
  (.seq 
  (.seq (.r [(.s 20 (.ld false (some 4) (.t 7))), (.s 21 (.cl (.c (.func x_tree_applies [] [])) [(.t 20)]))]) (.cond (.t 21) 
  (.seq 
  (.seq (.r [(.s 22 (.fa (.t 7) 2)), (.s 23 (.ld false none (.t 22))), (.s 24 (.mv true (.t 23))), (.g 24 false 25 (.fa (.t 7) 0)), (.g 24 false 26 (.ld false none (.t 25))), (.g 24 false 27 (.le true (.t 26))), (.g 24 false 28 (.bo .eql 0 (.t 27) (.c (.int .i64 1)))), (.s 29 (.pk (.t 24) (.c (.bool true)) (.t 28)))]) (.cond (.t 29) 
  (.seq (.r [(.s 30 (.fa (.t 7) 1)), (.s 31 (.ld false none (.t 30))), (.s 32 (.ia 2 (.t 31) (.c (.int .i64 0)))), (.s 33 (.ld false (some 2) (.t 32))), (.n (.st true 2 (.t 4) (.t 33))), (.s 5 (.mv false (.c (.int .i64 130))))]) .ret) .skip)) 
  (.seq (.r [(.s 34 (.fa (.t 7) 0)), (.s 35 (.ld false none (.t 34))), (.s 36 (.sV 1 (.t 35) (some (.c (.int .i64 1))) none)), (.s 37 (.le true (.t 36))), (.s 38 (.mv false (.c (.int .i64 0))))]) (.block 2 (.loop l_tree_known_0)))) .skip)) 
  (.seq (.r [(.s 59 (.fa (.t 7) 3)), (.s 60 (.ld false none (.t 59))), (.s 61 (.mv false (.t 1))), (.s 62 (.cl (.c (.func x_tree_known [] [])) [(.t 60), (.t 61)])), (.s 58 (.mv true (.t 62))), (.s 63 (.ex (.t 58) 0)), (.s 64 (.ex (.t 58) 1)), (.s 12 (.al [(.int .i64 0), (.int .i64 0)])), (.n (.st true 2 (.t 12) (.t 63))), (.s 13 (.mv true (.t 64)))]) 
  (.seq (.r [(.s 65 (.mv false (.t 13))), (.s 66 (.bo .neq 0 (.t 65) (.c (.int .i64 0))))]) (.cond (.t 66) 
  (.seq (.r [(.s 67 (.ld false (some 2) (.t 12))), (.s 68 (.mv false (.t 13))), (.n (.st true 2 (.t 4) (.t 67))), (.s 5 (.mv true (.t 68)))]) .ret) .skip)))))) (.r [(.s 69 (.bo .add 0 (.t 16) (.c (.int .i64 1)))), (.s 16 (.mv true (.t 69)))]))))
def c_tree_known (x_tree_applies x_tree_known : Nat) : CF :=
  (.mk 71 
  (.seq (.r [(.s 4 (.al [(.int .i64 0), (.int .i64 0)])), (.s 5 (.mv false (.c (.int .i64 0))))]) 
  (.seq 
  (.seq (.r [(.s 14 (.mv false (.t 0))), (.s 15 (.le true (.t 14))), (.s 16 (.mv false (.c (.int .i64 0))))]) (.block 0 (.loop (l_tree_known_1 x_tree_applies x_tree_known)))) 
  (.seq (.r [(.s 70 (.bd true [(.int .i64 0), (.int .i64 0)] [])), (.n (.st true 2 (.t 4) (.t 70))), (.s 5 (.mv false (.c (.int .i64 0))))]) .ret))) [(.c 4 (some 2)), (.t 5)])
def l_tree_inherited_0 (x_tree_pass : Nat) : CC :=
  
  (.seq (.r [(.s 37 (.bo .lss 0 (.t 36) (.t 35)))]) 
  (.seq (.cond (.t 37) .skip (.exit 2)) 
  (.seq (.block 3 
  (.seq (.r [(.s 38 (.ia 1 (.t 34) (.t 36))), (.s 39 (.ld false none (.t 38))), (.s 10 (.mv true (.t 39)))]) (.r [(.s 40 (.mv false (.t 5))), (.s 41 (.mv false (.t 1))), (.s 42 (.mv false (.t 10))), (.s 43 (.lu .string (.vec false []) (.t 41) (.t 42) false)), (.s 44 (.cl (.c (.func x_tree_pass [] [])) [(.t 40), (.t 43)])), (.s 5 (.mv true (.t 44)))]))) (.r [(.s 45 (.bo .add 0 (.t 36) (.c (.int .i64 1)))), (.s 36 (.mv true (.t 45)))]))))
def l_tree_inherited_1 (x_tree_applies x_tree_inherited : Nat) : CC :=
  
  (.seq (.r [(.s 14 (.bo .lss 0 (.t 13) (.t 12)))]) 
  (.seq (.cond (.t 14) .skip (.exit 0)) 
  (.seq (.block 1 
  (.seq (.r [(.s 15 (.ia 4 (.t 11) (.t 13))), (.s 16 (.ld false (some 4) (.t 15))), (.s 8 (.al [(.vec true []), (.vec true []), (.bool false), (.vec true [])])), (.n (.st true 4 (.t 8) (.t 16)))]) 
  (.seq 
  (.seq (.r [(.s 17 (.ld false (some 4) (.t 8))), (.s 18 (.cl (.c (.func x_tree_applies [] [])) [(.t 17)]))]) (.cond (.t 18) 
  (.seq (.r [(.s 19 (.mv true (.t 6))), (.s 20 (.fa (.t 8) 0)), (.s 21 (.ld false none (.t 20))), (.s 22 (.sV 1 (.t 21) (some (.c (.int .i64 1))) none)), (.s 23 (.ap false 1 16 (.t 19) (.t 22))), (.s 6 (.mv true (.t 23)))]) (.exit 1)) .skip)) 
  (.seq (.r [(.s 24 (.fa (.t 8) 3)), (.s 25 (.ld false none (.t 24))), (.s 26 (.mv false (.t 1))), (.s 27 (.cl (.c (.func x_tree_inherited [] [])) [(.t 25), (.t 26)])), (.s 28 (.fa (.t 8) 3)), (.n (.st true 1 (.t 28) (.t 27)))]) (.r [(.s 29 (.mv true (.t 5))), (.s 30 (.ld false (some 4) (.t 8))), (.s 31 (.bs false 1 4 [(.vec false []), (.vec false []), (.bool false), (.vec false [])] [(0, (.t 30))])), (.s 32 (.ap false 4 80 (.t 29) (.t 31))), (.s 5 (.mv true (.t 32)))]))))) (.r [(.s 33 (.bo .add 0 (.t 13) (.c (.int .i64 1)))), (.s 13 (.mv true (.t 33)))]))))
def c_tree_inherited (x_tree_applies x_tree_inherited x_tree_pass : Nat) : CF :=
  (.mk 47 
  (.seq (.r [(.s 4 (.mv false (.c (.vec true []))))]) 
  (.seq (.r [(.s 5 (.mv false (.c (.vec true []))))]) 
  (.seq (.r [(.s 6 (.mv false (.c (.vec true []))))]) 
  (.seq 
  (.seq (.r [(.s 11 (.mv false (.t 0))), (.s 12 (.le true (.t 11))), (.s 13 (.mv false (.c (.int .i64 0))))]) (.block 0 (.loop (l_tree_inherited_1 x_tree_applies x_tree_inherited)))) 
  (.seq 
  (.seq (.r [(.s 34 (.mv false (.t 6))), (.s 35 (.le true (.t 34))), (.s 36 (.mv false (.c (.int .i64 0))))]) (.block 2 (.loop (l_tree_inherited_0 x_tree_pass)))) 
  (.seq (.r [(.s 46 (.mv false (.t 5))), (.s 4 (.mv true (.t 46)))]) .ret)))))) [(.t 4)])
def c_strings_IndexByte (x_stringslite_IndexByte : Nat) : CF :=
  (.mk 8 
  (.seq (.r [(.s 4 (.mv false (.c (.int .i64 0))))]) 
  (.seq (.r [(.s 5 (.mv false (.t 0))), (.s 6 (.mv false (.t 1))), (.s 7 (.cl (.c (.func x_stringslite_IndexByte [] [])) [(.t 5), (.t 6)])), (.s 4 (.mv true (.t 7)))]) .ret)) [(.t 4)])
def l_lex_reader_take_0 : CC :=
  
  (.seq (.r [(.s 24 (.bo .lss 0 (.t 23) (.t 22)))]) 
  (.seq (.cond (.t 24) .skip (.exit 0)) 
  (.seq (.block 1 
  (.seq (.r [(.s 25 (.mv false (.t 23))), (.s 6 (.mv true (.t 25)))]) 
  (.seq (.r [(.s 26 (.mv false (.t 0))), (.s 27 (.nc (.t 26))), (.s 28 (.fa (.t 27) 1)), (.s 29 (.fa (.t 28) 1)), (.s 30 (.ld false none (.t 29))), (.s 31 (.bo .add 0 (.t 30) (.c (.int .i64 1)))), (.s 32 (.nc (.t 26))), (.s 33 (.fa (.t 32) 1)), (.s 34 (.fa (.t 33) 1)), (.n (.st true 1 (.t 34) (.t 31)))]) 
  (.seq (.r [(.s 35 (.mv false (.t 5))), (.s 36 (.mv false (.t 6))), (.s 37 (.iS (.t 35) (.t 36))), (.s 38 (.bo .eql 0 (.t 37) (.c (.int .u8 10))))]) (.cond (.t 38) (.r [(.s 39 (.mv false (.t 0))), (.s 40 (.mv false (.t 0))), (.s 41 (.nc (.t 40))), (.s 42 (.fa (.t 41) 1)), (.s 43 (.fa (.t 42) 0)), (.s 44 (.ld false none (.t 43))), (.s 45 (.bo .add 0 (.t 44) (.c (.int .i64 1)))), (.s 46 (.bd true [(.int .i64 0), (.int .i64 0)] [(0, (1, (.t 45))), (1, (1, (.c (.int .i64 1))))])), (.s 47 (.nc (.t 39))), (.s 48 (.fa (.t 47) 1)), (.n (.st true 2 (.t 48) (.t 46)))]) .skip))))) (.r [(.s 49 (.bo .add 0 (.t 23) (.c (.int .i64 1)))), (.s 23 (.mv true (.t 49)))]))))
def c_lex_reader_take : CF :=
  (.mk 51 
  (.seq (.r [(.s 4 (.mv false (.c (.str []))))]) 
  (.seq (.r [(.s 7 (.mv false (.t 0))), (.s 8 (.nc (.t 7))), (.s 9 (.fa (.t 8) 0)), (.s 10 (.ld false none (.t 9))), (.s 11 (.mv false (.t 1))), (.s 12 (.sS (.t 10) none (some (.t 11)))), (.s 5 (.mv true (.t 12)))]) 
  (.seq (.r [(.s 13 (.mv false (.t 0))), (.s 14 (.mv false (.t 0))), (.s 15 (.nc (.t 14))), (.s 16 (.fa (.t 15) 0)), (.s 17 (.ld false none (.t 16))), (.s 18 (.mv false (.t 1))), (.s 19 (.sS (.t 17) (some (.t 18)) none)), (.s 20 (.nc (.t 13))), (.s 21 (.fa (.t 20) 0)), (.n (.st true 1 (.t 21) (.t 19)))]) 
  (.seq 
  (.seq (.r [(.s 22 (.mv false (.t 1))), (.s 23 (.mv false (.c (.int .i64 0))))]) (.block 0 (.loop l_lex_reader_take_0))) 
  (.seq (.r [(.s 50 (.mv false (.t 5))), (.s 4 (.mv true (.t 50)))]) .ret))))) [(.t 4)])
def l_lex_reader_until_0 : CC :=
  
  (.seq 
  (.seq (.r [(.s 6 (.mv false (.t 5))), (.s 7 (.mv false (.t 0))), (.s 8 (.nc (.t 7))), (.s 9 (.fa (.t 8) 0)), (.s 10 (.ld false none (.t 9))), (.s 11 (.le false (.t 10))), (.s 12 (.bo .lss 0 (.t 6) (.t 11))), (.s 13 (.mv true (.t 12))), (.g 13 true 14 (.mv false (.t 1))), (.g 13 true 15 (.mv false (.t 5))), (.g 13 true 16 (.cl (.t 14) [(.t 15)])), (.g 13 true 17 (.uo .not (.t 16))), (.s 18 (.pk (.t 13) (.t 17) (.c (.bool false))))]) (.cond (.t 18) .skip (.exit 0))) (.block 1 (.r [(.s 19 (.mv false (.t 5))), (.s 20 (.bo .add 0 (.t 19) (.c (.int .i64 1)))), (.s 5 (.mv true (.t 20)))])))
def c_lex_reader_until : CF :=
  (.mk 22 
  (.seq (.r [(.s 4 (.mv false (.c (.int .i64 0))))]) 
  (.seq (.r [(.s 5 (.mv false (.c (.int .i64 0))))]) 
  (.seq (.block 0 (.loop l_lex_reader_until_0)) 
  (.seq (.r [(.s 21 (.mv false (.t 5))), (.s 4 (.mv true (.t 21)))]) .ret)))) [(.t 4)])
def c_lex_reader_token_1 : CF :=
  (.mk 11 
  (.seq (.r [(.s 3 (.mv false (.c (.bool false))))]) 
  (.seq (.r [(.s 4 (.ld false none (.t 1))), (.s 5 (.nc (.t 4))), (.s 6 (.fa (.t 5) 0)), (.s 7 (.ld false none (.t 6))), (.s 8 (.mv false (.t 0))), (.s 9 (.iS (.t 7) (.t 8))), (.s 10 (.bo .eql 0 (.t 9) (.c (.int .u8 10)))), (.s 3 (.mv true (.t 10)))]) .ret)) [(.t 3)])
def c_strings_HasPrefix (x_stringslite_HasPrefix : Nat) : CF :=
  (.mk 8 
  (.seq (.r [(.s 4 (.mv false (.c (.bool false))))]) 
  (.seq (.r [(.s 5 (.mv false (.t 0))), (.s 6 (.mv false (.t 1))), (.s 7 (.cl (.c (.func x_stringslite_HasPrefix [] [])) [(.t 5), (.t 6)])), (.s 4 (.mv true (.t 7)))]) .ret)) [(.t 4)])
def c_strings_Index (x_stringslite_Index : Nat) : CF :=
  (.mk 8 
  (.seq (.r [(.s 4 (.mv false (.c (.int .i64 0))))]) 
  (.seq (.r [(.s 5 (.mv false (.t 0))), (.s 6 (.mv false (.t 1))), (.s 7 (.cl (.c (.func x_stringslite_Index [] [])) [(.t 5), (.t 6)])), (.s 4 (.mv true (.t 7)))]) .ret)) [(.t 4)])
def c_lex_reader_ends (x_strings_IndexByte x_strings_HasPrefix : Nat) : CF :=
  (.mk 22 
  (.seq (.r [(.s 4 (.mv false (.c (.bool false))))]) 
  (.seq (.r [(.s 5 (.mv false (.t 0))), (.s 6 (.nc (.t 5))), (.s 7 (.fa (.t 6) 0)), (.s 8 (.ld false none (.t 7))), (.s 9 (.mv false (.t 1))), (.s 10 (.iS (.t 8) (.t 9))), (.s 11 (.cl (.c (.func x_strings_IndexByte [] [])) [(.c (.str [32, 10, 123, 125, 59, 91, 93, 34, 35])), (.t 10)])), (.s 12 (.bo .geq 0 (.t 11) (.c (.int .i64 0)))), (.s 13 (.mv true (.t 12))), (.g 13 false 14 (.mv false (.t 0))), (.g 13 false 15 (.nc (.t 14))), (.g 13 false 16 (.fa (.t 15) 0)), (.g 13 false 17 (.ld false none (.t 16))), (.g 13 false 18 (.mv false (.t 1))), (.g 13 false 19 (.sS (.t 17) (some (.t 18)) none)), (.g 13 false 20 (.cl (.c (.func x_strings_HasPrefix [] [])) [(.t 19), (.c (.str [47, 42]))])), (.s 21 (.pk (.t 13) (.c (.bool true)) (.t 20))), (.s 4 (.mv true (.t 21)))]) .ret)) [(.t 4)])
def l_tree_reader_words_0 (x_tree_reader_next x_tree_reader_off : Nat) : CC :=
  
  (.seq 
  (.seq (.r [(.s 4 (.mv false (.t 0))), (.s 5 (.cl (.c (.func x_tree_reader_next [] [])) [(.t 4)])), (.s 6 (.bo .eql 0 (.t 5) (.c (.int .u8 1))))]) (.cond (.t 6) .skip (.exit 0))) (.block 1 
  (.seq (.r [(.s 7 (.mv false (.t 0))), (.s 8 (.cl (.c (.func x_tree_reader_off [] [])) [(.t 7)])), (.s 3 (.al [(.int .u8 0), (.str []), (.int .i64 0), (.int .i64 0)])), (.n (.st true 4 (.t 3) (.t 8)))]) (.r [(.s 9 (.fa (.t 2) 0)), (.s 10 (.ld true none (.t 9))), (.s 11 (.fa (.t 3) 1)), (.s 12 (.ld false none (.t 11))), (.s 13 (.bs false 1 1 [(.str [])] [(0, (.t 12))])), (.s 14 (.ap false 1 16 (.t 10) (.t 13))), (.s 15 (.fa (.t 2) 1)), (.s 16 (.ld true none (.t 15))), (.s 17 (.fa (.t 3) 2)), (.s 18 (.ld false (some 2) (.t 17))), (.s 19 (.bs false 1 2 [(.int .i64 0), (.int .i64 0)] [(0, (.t 18))])), (.s 20 (.ap false 2 16 (.t 16) (.t 19))), (.s 21 (.fa (.t 2) 0)), (.n (.st true 1 (.t 21) (.t 14))), (.s 22 (.fa (.t 2) 1)), (.n (.st true 1 (.t 22) (.t 20)))]))))
def c_tree_reader_words (x_tree_reader_next x_tree_reader_off : Nat) : CF :=
  (.mk 24 
  (.seq (.r [(.s 2 (.al [(.vec true []), (.vec true []), (.bool false), (.vec true [])]))]) 
  (.seq (.block 0 (.loop (l_tree_reader_words_0 x_tree_reader_next x_tree_reader_off))) 
  (.seq (.r [(.s 23 (.ld false (some 4) (.t 2))), (.n (.st true 4 (.t 2) (.t 23)))]) .ret))) [(.c 2 (some 4))])
def c_strings_ContainsAny (x_strings_IndexAny : Nat) : CF :=
  (.mk 9 
  (.seq (.r [(.s 4 (.mv false (.c (.bool false))))]) 
  (.seq (.r [(.s 5 (.mv false (.t 0))), (.s 6 (.mv false (.t 1))), (.s 7 (.cl (.c (.func x_strings_IndexAny [] [])) [(.t 5), (.t 6)])), (.s 8 (.bo .geq 0 (.t 7) (.c (.int .i64 0)))), (.s 4 (.mv true (.t 8)))]) .ret)) [(.t 4)])
def c_strings_Contains (x_strings_Index : Nat) : CF :=
  (.mk 9 
  (.seq (.r [(.s 4 (.mv false (.c (.bool false))))]) 
  (.seq (.r [(.s 5 (.mv false (.t 0))), (.s 6 (.mv false (.t 1))), (.s 7 (.cl (.c (.func x_strings_Index [] [])) [(.t 5), (.t 6)])), (.s 8 (.bo .geq 0 (.t 7) (.c (.int .i64 0)))), (.s 4 (.mv true (.t 8)))]) .ret)) [(.t 4)])
def c_bits_Mul (x_bits_Mul32 x_bits_Mul64 : Nat) : CF :=
  (.mk 30 
  (.seq (.r [(.s 4 (.mv false (.c (.int .u64 0)))), (.s 5 (.mv false (.c (.int .u64 0))))]) 
  (.seq (.cond (.c (.bool false)) 
  (.seq (.r [(.s 11 (.mv false (.t 0))), (.s 12 (.ci .u32 (.t 11))), (.s 13 (.mv false (.t 1))), (.s 14 (.ci .u32 (.t 13))), (.s 15 (.cl (.c (.func x_bits_Mul32 [] [])) [(.t 12), (.t 14)])), (.s 10 (.mv true (.t 15))), (.s 16 (.ex (.t 10) 0)), (.s 17 (.ex (.t 10) 1)), (.s 6 (.mv true (.t 16))), (.s 7 (.mv true (.t 17)))]) 
  (.seq (.r [(.s 18 (.mv false (.t 6))), (.s 19 (.ci .u64 (.t 18))), (.s 20 (.mv false (.t 7))), (.s 21 (.ci .u64 (.t 20))), (.s 4 (.mv true (.t 19))), (.s 5 (.mv true (.t 21)))]) .ret)) .skip) 
  (.seq (.r [(.s 23 (.mv false (.t 0))), (.s 24 (.mv false (.t 1))), (.s 25 (.cl (.c (.func x_bits_Mul64 [] [])) [(.t 23), (.t 24)])), (.s 22 (.mv true (.t 25))), (.s 26 (.ex (.t 22) 0)), (.s 27 (.ex (.t 22) 1)), (.s 8 (.mv true (.t 26))), (.s 9 (.mv true (.t 27)))]) 
  (.seq (.r [(.s 28 (.mv false (.t 8))), (.s 29 (.mv false (.t 9))), (.s 4 (.mv true (.t 28))), (.s 5 (.mv true (.t 29)))]) .ret)))) [(.t 4), (.t 5)])
def c_strings_Builder_Len : CF :=
  (.mk 8 
  (.seq (.r [(.s 2 (.mv false (.c (.int .i64 0))))]) 
  (.seq (.r [(.s 3 (.mv false (.t 0))), (.s 4 (.nc (.t 3))), (.s 5 (.fa (.t 4) 1)), (.s 6 (.ld false none (.t 5))), (.s 7 (.le true (.t 6))), (.s 2 (.mv true (.t 7)))]) .ret)) [(.t 2)])
def l_tree_book_1_0 (x_tree_applies : Nat) : CC :=
  
  (.seq (.r [(.s 12 (.bo .lss 0 (.t 11) (.t 10)))]) 
  (.seq (.cond (.t 12) .skip (.exit 0)) 
  (.seq (.block 1 
  (.seq (.r [(.s 13 (.ia 4 (.t 9) (.t 11))), (.s 14 (.ld false (some 4) (.t 13))), (.s 6 (.al [(.vec true []), (.vec true []), (.bool false), (.vec true [])])), (.n (.st true 4 (.t 6) (.t 14)))]) 
  (.seq 
  (.seq (.r [(.s 15 (.ld false (some 4) (.t 6))), (.s 16 (.cl (.c (.func x_tree_applies [] [])) [(.t 15)]))]) (.cond (.t 16) 
  (.seq (.r [(.s 17 (.fa (.t 6) 1)), (.s 18 (.ld false none (.t 17))), (.s 19 (.ia 2 (.t 18) (.c (.int .i64 0)))), (.s 20 (.ld false (some 2) (.t 19))), (.n (.st true 2 (.t 3) (.t 20))), (.s 4 (.mv false (.c (.int .i64 130))))]) .ret) .skip)) 
  (.seq (.r [(.s 22 (.ld false none (.t 1))), (.s 23 (.fa (.t 6) 3)), (.s 24 (.ld false none (.t 23))), (.s 25 (.cl (.t 22) [(.t 24)])), (.s 21 (.mv true (.t 25))), (.s 26 (.ex (.t 21) 0)), (.s 27 (.ex (.t 21) 1)), (.s 7 (.al [(.int .i64 0), (.int .i64 0)])), (.n (.st true 2 (.t 7) (.t 26))), (.s 8 (.mv true (.t 27)))]) 
  (.seq (.r [(.s 28 (.mv false (.t 8))), (.s 29 (.bo .neq 0 (.t 28) (.c (.int .i64 0))))]) (.cond (.t 29) 
  (.seq (.r [(.s 30 (.ld false (some 2) (.t 7))), (.s 31 (.mv false (.t 8))), (.n (.st true 2 (.t 3) (.t 30))), (.s 4 (.mv true (.t 31)))]) .ret) .skip)))))) (.r [(.s 32 (.bo .add 0 (.t 11) (.c (.int .i64 1)))), (.s 11 (.mv true (.t 32)))]))))
def c_tree_book_1 (x_tree_applies : Nat) : CF :=
  (.mk 34 
  (.seq (.r [(.s 3 (.al [(.int .i64 0), (.int .i64 0)])), (.s 4 (.mv false (.c (.int .i64 0))))]) 
  (.seq 
  (.seq (.r [(.s 9 (.mv false (.t 0))), (.s 10 (.le true (.t 9))), (.s 11 (.mv false (.c (.int .i64 0))))]) (.block 0 (.loop (l_tree_book_1_0 x_tree_applies)))) 
  (.seq (.r [(.s 33 (.bd true [(.int .i64 0), (.int .i64 0)] [])), (.n (.st true 2 (.t 3) (.t 33))), (.s 4 (.mv false (.c (.int .i64 0))))]) .ret))) [(.c 3 (some 2)), (.t 4)])
def c_tree_applies : CF :=
  (.mk 14 
  (.seq (.r [(.s 1 (.bx false (.t 0))), (.s 2 (.mv false (.c (.bool false))))]) 
  (.seq (.r [(.s 3 (.fa (.t 1) 0)), (.s 4 (.ld false none (.t 3))), (.s 5 (.le true (.t 4))), (.s 6 (.bo .gtr 0 (.t 5) (.c (.int .i64 0)))), (.s 7 (.mv true (.t 6))), (.g 7 true 8 (.fa (.t 1) 0)), (.g 7 true 9 (.ld false none (.t 8))), (.g 7 true 10 (.ia 1 (.t 9) (.c (.int .i64 0)))), (.g 7 true 11 (.ld false none (.t 10))), (.g 7 true 12 (.bo .eql 0 (.t 11) (.c (.str [97, 112, 112, 108, 121, 45, 103, 114, 111, 117, 112, 115])))), (.s 13 (.pk (.t 7) (.t 12) (.c (.bool false)))), (.s 2 (.mv true (.t 13)))]) .ret)) [(.t 2)])
def l_tree_pass_0 (x_tree_fits x_tree_pass : Nat) : CC :=
  
  (.seq (.r [(.s 34 (.bo .lss 0 (.t 33) (.t 32)))]) 
  (.seq (.cond (.t 34) .skip (.exit 2)) 
  (.seq (.block 3 
  (.seq (.r [(.s 35 (.mv false (.t 33))), (.s 8 (.mv true (.t 35)))]) 
  (.seq (.r [(.s 36 (.mv false (.t 0))), (.s 37 (.mv false (.t 8))), (.s 38 (.ia 4 (.t 36) (.t 37))), (.s 39 (.ld false (some 4) (.t 38))), (.s 40 (.ld false (some 4) (.t 6))), (.s 41 (.cl (.c (.func x_tree_fits [] [])) [(.t 39), (.t 40)]))]) (.cond (.t 41) 
  (.seq (.r [(.s 7 (.mv false (.c (.bool true))))]) (.r [(.s 42 (.mv false (.t 0))), (.s 43 (.mv false (.t 8))), (.s 44 (.mv false (.t 0))), (.s 45 (.mv false (.t 8))), (.s 46 (.ia 4 (.t 44) (.t 45))), (.s 47 (.fa (.t 46) 3)), (.s 48 (.ld false none (.t 47))), (.s 49 (.fa (.t 6) 3)), (.s 50 (.ld false none (.t 49))), (.s 51 (.cl (.c (.func x_tree_pass [] [])) [(.t 48), (.t 50)])), (.s 52 (.ia 4 (.t 42) (.t 43))), (.s 53 (.fa (.t 52) 3)), (.n (.st true 1 (.t 53) (.t 51)))])) .skip)))) (.r [(.s 54 (.bo .add 0 (.t 33) (.c (.int .i64 1)))), (.s 33 (.mv true (.t 54)))]))))
def l_tree_pass_1 (x_slices_ContainsFunc_tree_Node x_tree_twin x_slices_Contains_string x_tree_fits x_tree_pass x_tree_pass_1 : Nat) : CC :=
  
  (.seq (.r [(.s 13 (.bo .lss 0 (.t 12) (.t 11)))]) 
  (.seq (.cond (.t 13) .skip (.exit 0)) 
  (.seq (.block 1 
  (.seq (.r [(.s 14 (.ia 4 (.t 10) (.t 12))), (.s 15 (.ld false (some 4) (.t 14))), (.s 6 (.al [(.vec true []), (.vec true []), (.bool false), (.vec true [])])), (.n (.st true 4 (.t 6) (.t 15)))]) 
  (.seq 
  (.seq (.r [(.s 16 (.fa (.t 6) 2)), (.s 17 (.ld false none (.t 16))), (.s 18 (.uo .not (.t 17)))]) (.cond (.t 18) 
  (.seq 
  (.seq (.r [(.s 19 (.mv false (.t 0))), (.s 20 (.mf x_tree_pass_1 [] [(.t 6)])), (.s 21 (.cl (.c (.func x_slices_ContainsFunc_tree_Node [] [])) [(.t 19), (.t 20)])), (.s 22 (.uo .not (.t 21)))]) (.cond (.t 22) (.r [(.s 23 (.mv true (.t 0))), (.s 24 (.ld false (some 4) (.t 6))), (.s 25 (.cl (.c (.func x_tree_twin [] [])) [(.t 24)])), (.s 26 (.bs false 1 4 [(.vec false []), (.vec false []), (.bool false), (.vec false [])] [(0, (.t 25))])), (.s 27 (.ap false 4 80 (.t 23) (.t 26))), (.s 0 (.mv true (.t 27)))]) .skip)) (.exit 1)) .skip)) 
  (.seq (.r [(.s 28 (.fa (.t 6) 0)), (.s 29 (.ld false none (.t 28))), (.s 30 (.cl (.c (.func x_slices_Contains_string [] [])) [(.t 29), (.c (.str [60, 42, 62]))])), (.s 7 (.mv true (.t 30)))]) 
  (.seq 
  (.seq (.r [(.s 31 (.mv false (.t 0))), (.s 32 (.le true (.t 31))), (.s 33 (.mv false (.c (.int .i64 0))))]) (.block 2 (.loop (l_tree_pass_0 x_tree_fits x_tree_pass)))) 
  (.seq (.r [(.s 55 (.mv false (.t 7))), (.s 56 (.uo .not (.t 55)))]) (.cond (.t 56) 
  (.seq (.r [(.s 57 (.fa (.t 6) 0)), (.s 58 (.ld false none (.t 57))), (.s 59 (.fa (.t 6) 1)), (.s 60 (.ld false none (.t 59))), (.s 61 (.bd true [(.vec true []), (.vec true []), (.bool false), (.vec true [])] [(0, (1, (.t 58))), (1, (1, (.t 60))), (2, (1, (.c (.bool true))))])), (.s 62 (.cl (.c (.func x_tree_twin [] [])) [(.t 61)])), (.s 9 (.al [(.vec true []), (.vec true []), (.bool false), (.vec true [])])), (.n (.st true 4 (.t 9) (.t 62)))]) 
  (.seq (.r [(.s 63 (.fa (.t 6) 3)), (.s 64 (.ld false none (.t 63))), (.s 65 (.cl (.c (.func x_tree_pass [] [])) [(.c (.vec true [])), (.t 64)])), (.s 66 (.fa (.t 9) 3)), (.n (.st true 1 (.t 66) (.t 65)))]) (.r [(.s 67 (.mv true (.t 0))), (.s 68 (.ld false (some 4) (.t 9))), (.s 69 (.bs false 1 4 [(.vec false []), (.vec false []), (.bool false), (.vec false [])] [(0, (.t 68))])), (.s 70 (.ap false 4 80 (.t 67) (.t 69))), (.s 0 (.mv true (.t 70)))]))) .skip))))))) (.r [(.s 71 (.bo .add 0 (.t 12) (.c (.int .i64 1)))), (.s 12 (.mv true (.t 71)))]))))
def c_tree_pass (x_slices_ContainsFunc_tree_Node x_tree_twin x_slices_Contains_string x_tree_fits x_tree_pass x_tree_pass_1 : Nat) : CF :=
  (.mk 73 
  (.seq (.r [(.s 4 (.mv false (.c (.vec true []))))]) 
  (.seq 
  (.seq (.r [(.s 10 (.mv false (.t 1))), (.s 11 (.le true (.t 10))), (.s 12 (.mv false (.c (.int .i64 0))))]) (.block 0 (.loop (l_tree_pass_1 x_slices_ContainsFunc_tree_Node x_tree_twin x_slices_Contains_string x_tree_fits x_tree_pass x_tree_pass_1)))) 
  (.seq (.r [(.s 72 (.mv false (.t 0))), (.s 4 (.mv true (.t 72)))]) .ret))) [(.t 4)])
def c_stringslite_IndexByte (x_bytealg_IndexByteString : Nat) : CF :=
  (.mk 8 
  (.seq (.r [(.s 4 (.mv false (.c (.int .i64 0))))]) 
  (.seq (.r [(.s 5 (.mv false (.t 0))), (.s 6 (.mv false (.t 1))), (.s 7 (.cl (.c (.func x_bytealg_IndexByteString [] [])) [(.t 5), (.t 6)])), (.s 4 (.mv true (.t 7)))]) .ret)) [(.t 4)])
def c_stringslite_HasPrefix : CF :=
  (.mk 18 
  (.seq (.r [(.s 4 (.mv false (.c (.bool false))))]) 
  (.seq (.r [(.s 5 (.mv false (.t 0))), (.s 6 (.le false (.t 5))), (.s 7 (.mv false (.t 1))), (.s 8 (.le false (.t 7))), (.s 9 (.bo .geq 0 (.t 6) (.t 8))), (.s 10 (.mv true (.t 9))), (.g 10 true 11 (.mv false (.t 0))), (.g 10 true 12 (.mv false (.t 1))), (.g 10 true 13 (.le false (.t 12))), (.g 10 true 14 (.sS (.t 11) none (some (.t 13)))), (.g 10 true 15 (.mv false (.t 1))), (.g 10 true 16 (.bo .eql 0 (.t 14) (.t 15))), (.s 17 (.pk (.t 10) (.t 16) (.c (.bool false)))), (.s 4 (.mv true (.t 17)))]) .ret)) [(.t 4)])
def l_stringslite_Index_0 (x_stringslite_IndexByte x_bytealg_IndexString x_bytealg_Cutover x_bytealg_IndexRabinKarp_string : Nat) : CC :=
  
  (.seq 
  (.seq (.r [(.s 57 (.mv false (.t 8))), (.s 58 (.mv false (.t 9))), (.s 59 (.bo .lss 0 (.t 57) (.t 58)))]) (.cond (.t 59) .skip (.exit 1))) (.block 2 
  (.seq 
  (.seq (.r [(.s 60 (.mv false (.t 0))), (.s 61 (.mv false (.t 8))), (.s 62 (.iS (.t 60) (.t 61))), (.s 63 (.mv false (.t 6))), (.s 64 (.bo .neq 0 (.t 62) (.t 63)))]) (.cond (.t 64) 
  (.seq (.r [(.s 65 (.mv false (.t 0))), (.s 66 (.mv false (.t 8))), (.s 67 (.bo .add 0 (.t 66) (.c (.int .i64 1)))), (.s 68 (.mv false (.t 9))), (.s 69 (.sS (.t 65) (some (.t 67)) (some (.t 68)))), (.s 70 (.mv false (.t 6))), (.s 71 (.cl (.c (.func x_stringslite_IndexByte [] [])) [(.t 69), (.t 70)])), (.s 11 (.mv true (.t 71)))]) 
  (.seq 
  (.seq (.r [(.s 72 (.mv false (.t 11))), (.s 73 (.bo .lss 0 (.t 72) (.c (.int .i64 0))))]) (.cond (.t 73) 
  (.seq (.r [(.s 4 (.mv false (.c (.int .i64 (-1)))))]) .ret) .skip)) (.r [(.s 74 (.mv false (.t 8))), (.s 75 (.mv false (.t 11))), (.s 76 (.bo .add 0 (.t 75) (.c (.int .i64 1)))), (.s 77 (.bo .add 0 (.t 74) (.t 76))), (.s 8 (.mv true (.t 77)))]))) .skip)) 
  (.seq 
  (.seq (.r [(.s 78 (.mv false (.t 0))), (.s 79 (.mv false (.t 8))), (.s 80 (.bo .add 0 (.t 79) (.c (.int .i64 1)))), (.s 81 (.iS (.t 78) (.t 80))), (.s 82 (.mv false (.t 7))), (.s 83 (.bo .eql 0 (.t 81) (.t 82))), (.s 84 (.mv true (.t 83))), (.g 84 true 85 (.mv false (.t 0))), (.g 84 true 86 (.mv false (.t 8))), (.g 84 true 87 (.mv false (.t 8))), (.g 84 true 88 (.mv false (.t 5))), (.g 84 true 89 (.bo .add 0 (.t 87) (.t 88))), (.g 84 true 90 (.sS (.t 85) (some (.t 86)) (some (.t 89)))), (.g 84 true 91 (.mv false (.t 1))), (.g 84 true 92 (.bo .eql 0 (.t 90) (.t 91))), (.s 93 (.pk (.t 84) (.t 92) (.c (.bool false))))]) (.cond (.t 93) 
  (.seq (.r [(.s 94 (.mv false (.t 8))), (.s 4 (.mv true (.t 94)))]) .ret) .skip)) 
  (.seq (.r [(.s 95 (.mv false (.t 8))), (.s 96 (.bo .add 0 (.t 95) (.c (.int .i64 1)))), (.s 8 (.mv true (.t 96)))]) 
  (.seq (.r [(.s 97 (.mv false (.t 10))), (.s 98 (.bo .add 0 (.t 97) (.c (.int .i64 1)))), (.s 10 (.mv true (.t 98)))]) 
  (.seq (.r [(.s 99 (.mv false (.t 5))), (.s 100 (.ld false none (.c .undef))), (.s 101 (.bo .leq 0 (.t 99) (.t 100))), (.s 102 (.mv true (.t 101))), (.g 102 true 103 (.mv false (.t 10))), (.g 102 true 104 (.mv false (.t 8))), (.g 102 true 105 (.cl (.c (.func x_bytealg_Cutover [] [])) [(.t 104)])), (.g 102 true 106 (.bo .gtr 0 (.t 103) (.t 105))), (.s 107 (.pk (.t 102) (.t 106) (.c (.bool false))))]) (.cond (.t 107) 
  (.seq (.r [(.s 108 (.mv false (.t 0))), (.s 109 (.mv false (.t 8))), (.s 110 (.sS (.t 108) (some (.t 109)) none)), (.s 111 (.mv false (.t 1))), (.s 112 (.cl (.c (.func x_bytealg_IndexString [] [])) [(.t 110), (.t 111)])), (.s 12 (.mv true (.t 112)))]) 
  (.seq 
  (.seq (.r [(.s 113 (.mv false (.t 12))), (.s 114 (.bo .geq 0 (.t 113) (.c (.int .i64 0))))]) (.cond (.t 114) 
  (.seq (.r [(.s 115 (.mv false (.t 12))), (.s 116 (.mv false (.t 8))), (.s 117 (.bo .add 0 (.t 115) (.t 116))), (.s 4 (.mv true (.t 117)))]) .ret) .skip)) 
  (.seq (.r [(.s 4 (.mv false (.c (.int .i64 (-1)))))]) .ret))) 
  (.seq (.r [(.s 118 (.mv false (.t 5))), (.s 119 (.ld false none (.c .undef))), (.s 120 (.bo .gtr 0 (.t 118) (.t 119))), (.s 121 (.mv true (.t 120))), (.g 121 true 122 (.mv false (.t 10))), (.g 121 true 123 (.mv false (.t 8))), (.g 121 true 124 (.bo .shr 0 (.t 123) (.c (.int .u64 4)))), (.g 121 true 125 (.bo .add 0 (.c (.int .i64 4)) (.t 124))), (.g 121 true 126 (.bo .geq 0 (.t 122) (.t 125))), (.s 127 (.pk (.t 121) (.t 126) (.c (.bool false)))), (.s 128 (.mv true (.t 127))), (.g 128 true 129 (.mv false (.t 8))), (.g 128 true 130 (.mv false (.t 9))), (.g 128 true 131 (.bo .lss 0 (.t 129) (.t 130))), (.s 132 (.pk (.t 128) (.t 131) (.c (.bool false))))]) (.cond (.t 132) 
  (.seq (.r [(.s 133 (.mv false (.t 0))), (.s 134 (.mv false (.t 8))), (.s 135 (.sS (.t 133) (some (.t 134)) none)), (.s 136 (.mv false (.t 1))), (.s 137 (.cl (.c (.func x_bytealg_IndexRabinKarp_string [] [])) [(.t 135), (.t 136)])), (.s 13 (.mv true (.t 137)))]) 
  (.seq 
  (.seq (.r [(.s 138 (.mv false (.t 13))), (.s 139 (.bo .lss 0 (.t 138) (.c (.int .i64 0))))]) (.cond (.t 139) 
  (.seq (.r [(.s 4 (.mv false (.c (.int .i64 (-1)))))]) .ret) .skip)) 
  (.seq (.r [(.s 140 (.mv false (.t 8))), (.s 141 (.mv false (.t 13))), (.s 142 (.bo .add 0 (.t 140) (.t 141))), (.s 4 (.mv true (.t 142)))]) .ret))) .skip))))))))))
def c_stringslite_Index (x_stringslite_IndexByte x_bytealg_IndexString x_bytealg_Cutover x_bytealg_IndexRabinKarp_string : Nat) : CF :=
  (.mk 143 
  (.seq (.r [(.s 4 (.mv false (.c (.int .i64 0))))]) 
  (.seq (.r [(.s 14 (.mv false (.t 1))), (.s 15 (.le false (.t 14))), (.s 5 (.mv true (.t 15)))]) 
  (.seq (.block 0 
  (.seq (.r [(.s 17 (.mv false (.t 5))), (.s 18 (.bo .eql 0 (.t 17) (.c (.int .i64 0)))), (.s 19 (.mv true (.t 18))), (.g 19 false 20 (.mv false (.t 1))), (.g 19 false 21 (.mv false (.t 0))), (.g 19 false 22 (.bo .eql 0 (.t 20) (.t 21))), (.s 23 (.pk (.t 19) (.c (.bool true)) (.t 22))), (.s 16 (.mv true (.t 23)))]) (.cond (.t 16) 
  (.seq (.r [(.s 4 (.mv false (.c (.int .i64 0))))]) .ret) 
  (.seq (.r [(.s 25 (.mv false (.t 5))), (.s 26 (.bo .eql 0 (.t 25) (.c (.int .i64 1)))), (.s 24 (.mv true (.t 26)))]) (.cond (.t 24) 
  (.seq (.r [(.s 27 (.mv false (.t 0))), (.s 28 (.mv false (.t 1))), (.s 29 (.iS (.t 28) (.c (.int .i64 0)))), (.s 30 (.cl (.c (.func x_stringslite_IndexByte [] [])) [(.t 27), (.t 29)])), (.s 4 (.mv true (.t 30)))]) .ret) 
  (.seq (.r [(.s 32 (.mv false (.t 5))), (.s 33 (.mv false (.t 0))), (.s 34 (.le false (.t 33))), (.s 35 (.bo .geq 0 (.t 32) (.t 34))), (.s 31 (.mv true (.t 35)))]) (.cond (.t 31) 
  (.seq (.r [(.s 4 (.mv false (.c (.int .i64 (-1)))))]) .ret) 
  (.seq (.r [(.s 37 (.mv false (.t 5))), (.s 38 (.ld false none (.c .undef))), (.s 39 (.bo .leq 0 (.t 37) (.t 38))), (.s 40 (.mv true (.t 39))), (.g 40 true 41 (.mv false (.t 0))), (.g 40 true 42 (.le false (.t 41))), (.g 40 true 43 (.bo .leq 0 (.t 42) (.c (.int .i64 64)))), (.s 44 (.pk (.t 40) (.t 43) (.c (.bool false)))), (.s 36 (.mv true (.t 44)))]) (.cond (.t 36) 
  (.seq (.r [(.s 45 (.mv false (.t 0))), (.s 46 (.mv false (.t 1))), (.s 47 (.cl (.c (.func x_bytealg_IndexString [] [])) [(.t 45), (.t 46)])), (.s 4 (.mv true (.t 47)))]) .ret) .skip))))))))) 
  (.seq (.r [(.s 48 (.mv false (.t 1))), (.s 49 (.iS (.t 48) (.c (.int .i64 0)))), (.s 6 (.mv true (.t 49)))]) 
  (.seq (.r [(.s 50 (.mv false (.t 1))), (.s 51 (.iS (.t 50) (.c (.int .i64 1)))), (.s 7 (.mv true (.t 51)))]) 
  (.seq (.r [(.s 8 (.mv false (.c (.int .i64 0))))]) 
  (.seq (.r [(.s 52 (.mv false (.t 0))), (.s 53 (.le false (.t 52))), (.s 54 (.mv false (.t 5))), (.s 55 (.bo .sub 0 (.t 53) (.t 54))), (.s 56 (.bo .add 0 (.t 55) (.c (.int .i64 1)))), (.s 9 (.mv true (.t 56)))]) 
  (.seq (.r [(.s 10 (.mv false (.c (.int .i64 0))))]) 
  (.seq (.block 1 (.loop (l_stringslite_Index_0 x_stringslite_IndexByte x_bytealg_IndexString x_bytealg_Cutover x_bytealg_IndexRabinKarp_string))) 
  (.seq (.r [(.s 4 (.mv false (.c (.int .i64 (-1)))))]) .ret)))))))))) [(.t 4)])
def c_strings_shouldUseASCIISet : CF :=
  (.mk 5 
  (.seq (.r [(.s 2 (.mv false (.c (.bool false))))]) 
  (.seq (.r [(.s 3 (.mv false (.t 0))), (.s 4 (.bo .gtr 0 (.t 3) (.c (.int .i64 8)))), (.s 2 (.mv true (.t 4)))]) .ret)) [(.t 2)])
def c_bits_Mul32 : CF :=
  (.mk 17 
  (.seq (.r [(.s 4 (.mv false (.c (.int .u32 0)))), (.s 5 (.mv false (.c (.int .u32 0))))]) 
  (.seq (.r [(.s 7 (.mv false (.t 0))), (.s 8 (.ci .u64 (.t 7))), (.s 9 (.mv false (.t 1))), (.s 10 (.ci .u64 (.t 9))), (.s 11 (.bo .mul 0 (.t 8) (.t 10))), (.s 6 (.mv true (.t 11)))]) 
  (.seq (.r [(.s 12 (.mv false (.t 6))), (.s 13 (.bo .shr 0 (.t 12) (.c (.int .u64 32)))), (.s 14 (.ci .u32 (.t 13))), (.s 15 (.mv false (.t 6))), (.s 16 (.ci .u32 (.t 15))), (.s 4 (.mv true (.t 14))), (.s 5 (.mv true (.t 16)))]) .ret))) [(.t 4), (.t 5)])
def c_bits_Mul64 : CF :=
  (.mk 51 
  (.seq (.r [(.s 4 (.mv false (.c (.int .u64 0)))), (.s 5 (.mv false (.c (.int .u64 0))))]) 
  (.seq (.r [(.s 14 (.mv false (.t 0))), (.s 15 (.bo .and 0 (.t 14) (.c (.int .u64 4294967295)))), (.s 6 (.mv true (.t 15)))]) 
  (.seq (.r [(.s 16 (.mv false (.t 0))), (.s 17 (.bo .shr 0 (.t 16) (.c (.int .u64 32)))), (.s 7 (.mv true (.t 17)))]) 
  (.seq (.r [(.s 18 (.mv false (.t 1))), (.s 19 (.bo .and 0 (.t 18) (.c (.int .u64 4294967295)))), (.s 8 (.mv true (.t 19)))]) 
  (.seq (.r [(.s 20 (.mv false (.t 1))), (.s 21 (.bo .shr 0 (.t 20) (.c (.int .u64 32)))), (.s 9 (.mv true (.t 21)))]) 
  (.seq (.r [(.s 22 (.mv false (.t 6))), (.s 23 (.mv false (.t 8))), (.s 24 (.bo .mul 0 (.t 22) (.t 23))), (.s 10 (.mv true (.t 24)))]) 
  (.seq (.r [(.s 25 (.mv false (.t 7))), (.s 26 (.mv false (.t 8))), (.s 27 (.bo .mul 0 (.t 25) (.t 26))), (.s 28 (.mv false (.t 10))), (.s 29 (.bo .shr 0 (.t 28) (.c (.int .u64 32)))), (.s 30 (.bo .add 0 (.t 27) (.t 29))), (.s 11 (.mv true (.t 30)))]) 
  (.seq (.r [(.s 31 (.mv false (.t 11))), (.s 32 (.bo .and 0 (.t 31) (.c (.int .u64 4294967295)))), (.s 12 (.mv true (.t 32)))]) 
  (.seq (.r [(.s 33 (.mv false (.t 11))), (.s 34 (.bo .shr 0 (.t 33) (.c (.int .u64 32)))), (.s 13 (.mv true (.t 34)))]) 
  (.seq (.r [(.s 35 (.mv false (.t 12))), (.s 36 (.mv false (.t 6))), (.s 37 (.mv false (.t 9))), (.s 38 (.bo .mul 0 (.t 36) (.t 37))), (.s 39 (.bo .add 0 (.t 35) (.t 38))), (.s 12 (.mv true (.t 39)))]) 
  (.seq (.r [(.s 40 (.mv false (.t 7))), (.s 41 (.mv false (.t 9))), (.s 42 (.bo .mul 0 (.t 40) (.t 41))), (.s 43 (.mv false (.t 13))), (.s 44 (.bo .add 0 (.t 42) (.t 43))), (.s 45 (.mv false (.t 12))), (.s 46 (.bo .shr 0 (.t 45) (.c (.int .u64 32)))), (.s 47 (.bo .add 0 (.t 44) (.t 46))), (.s 4 (.mv true (.t 47)))]) 
  (.seq (.r [(.s 48 (.mv false (.t 0))), (.s 49 (.mv false (.t 1))), (.s 50 (.bo .mul 0 (.t 48) (.t 49))), (.s 5 (.mv true (.t 50)))]) .ret)))))))))))) [(.t 4), (.t 5)])
def c_slices_ContainsFunc_tree_Node (x_slices_IndexFunc_tree_Node : Nat) : CF :=
  (.mk 9 
  (.seq (.r [(.s 4 (.mv false (.c (.bool false))))]) 
  (.seq (.r [(.s 5 (.mv false (.t 0))), (.s 6 (.mv false (.t 1))), (.s 7 (.cl (.c (.func x_slices_IndexFunc_tree_Node [] [])) [(.t 5), (.t 6)])), (.s 8 (.bo .geq 0 (.t 7) (.c (.int .i64 0)))), (.s 4 (.mv true (.t 8)))]) .ret)) [(.t 4)])
def c_tree_pass_1 (x_tree_inPlace : Nat) : CF :=
  (.mk 7 
  (.seq (.r [(.s 2 (.bx false (.t 0))), (.s 3 (.mv false (.c (.bool false))))]) 
  (.seq (.r [(.s 4 (.ld false (some 4) (.t 2))), (.s 5 (.ld false (some 4) (.t 1))), (.s 6 (.cl (.c (.func x_tree_inPlace [] [])) [(.t 4), (.t 5)])), (.s 3 (.mv true (.t 6)))]) .ret)) [(.t 3)])
def c_tree_inPlace (x_slices_Equal_string : Nat) : CF :=
  (.mk 29 
  (.seq (.r [(.s 2 (.bx false (.t 0))), (.s 3 (.bx false (.t 1))), (.s 4 (.mv false (.c (.bool false))))]) 
  (.seq (.r [(.s 6 (.fa (.t 3) 0)), (.s 7 (.ld false none (.t 6))), (.s 8 (.le true (.t 7))), (.s 5 (.mv true (.t 8)))]) 
  (.seq (.r [(.s 9 (.fa (.t 2) 0)), (.s 10 (.ld false none (.t 9))), (.s 11 (.le true (.t 10))), (.s 12 (.mv false (.t 5))), (.s 13 (.bo .eql 0 (.t 11) (.t 12))), (.s 14 (.mv true (.t 13))), (.g 14 true 15 (.fa (.t 2) 0)), (.g 14 true 16 (.ld false none (.t 15))), (.g 14 true 17 (.mv false (.t 5))), (.g 14 true 18 (.bo .sub 0 (.t 17) (.c (.int .i64 1)))), (.g 14 true 19 (.mx (.t 18) (.c (.int .i64 1)))), (.g 14 true 20 (.sV 1 (.t 16) none (some (.t 19)))), (.g 14 true 21 (.fa (.t 3) 0)), (.g 14 true 22 (.ld false none (.t 21))), (.g 14 true 23 (.mv false (.t 5))), (.g 14 true 24 (.bo .sub 0 (.t 23) (.c (.int .i64 1)))), (.g 14 true 25 (.mx (.t 24) (.c (.int .i64 1)))), (.g 14 true 26 (.sV 1 (.t 22) none (some (.t 25)))), (.g 14 true 27 (.cl (.c (.func x_slices_Equal_string [] [])) [(.t 20), (.t 26)])), (.s 28 (.pk (.t 14) (.t 27) (.c (.bool false)))), (.s 4 (.mv true (.t 28)))]) .ret))) [(.t 4)])
def c_slices_Contains_string (x_slices_Index_string : Nat) : CF :=
  (.mk 9 
  (.seq (.r [(.s 4 (.mv false (.c (.bool false))))]) 
  (.seq (.r [(.s 5 (.mv false (.t 0))), (.s 6 (.mv false (.t 1))), (.s 7 (.cl (.c (.func x_slices_Index_string [] [])) [(.t 5), (.t 6)])), (.s 8 (.bo .geq 0 (.t 7) (.c (.int .i64 0)))), (.s 4 (.mv true (.t 8)))]) .ret)) [(.t 4)])
def c_tree_fits (x_slices_EqualFunc_string x_tree_fits_1 : Nat) : CF :=
  (.mk 14 
  (.seq (.r [(.s 2 (.bx false (.t 0))), (.s 3 (.bx false (.t 1))), (.s 4 (.mv false (.c (.bool false))))]) 
  (.seq (.r [(.s 5 (.fa (.t 2) 2)), (.s 6 (.ld false none (.t 5))), (.s 7 (.mv true (.t 6))), (.g 7 true 8 (.fa (.t 2) 0)), (.g 7 true 9 (.ld false none (.t 8))), (.g 7 true 10 (.fa (.t 3) 0)), (.g 7 true 11 (.ld false none (.t 10))), (.g 7 true 12 (.cl (.c (.func x_slices_EqualFunc_string [] [])) [(.t 9), (.t 11), (.c (.func x_tree_fits_1 [] []))])), (.s 13 (.pk (.t 7) (.t 12) (.c (.bool false)))), (.s 4 (.mv true (.t 13)))]) .ret)) [(.t 4)])
def c_bytealg_Cutover : CF :=
  (.mk 6 
  (.seq (.r [(.s 2 (.mv false (.c (.int .i64 0))))]) 
  (.seq (.r [(.s 3 (.mv false (.t 0))), (.s 4 (.bo .add 0 (.t 3) (.c (.int .i64 16)))), (.s 5 (.bo .quo 0 (.t 4) (.c (.int .i64 8)))), (.s 2 (.mv true (.t 5)))]) .ret)) [(.t 2)])
def l_bytealg_IndexRabinKarp_string_0 : CC :=
  
  (.seq 
  (.seq (.r [(.s 41 (.mv false (.t 10))), (.s 42 (.mv false (.t 0))), (.s 43 (.le false (.t 42))), (.s 44 (.bo .lss 0 (.t 41) (.t 43)))]) (.cond (.t 44) .skip (.exit 2))) (.block 3 
  (.seq (.r [(.s 45 (.mv false (.t 8))), (.s 46 (.bo .mul 0 (.t 45) (.c (.int .u32 16777619)))), (.s 8 (.mv true (.t 46)))]) 
  (.seq (.r [(.s 47 (.mv false (.t 8))), (.s 48 (.mv false (.t 0))), (.s 49 (.mv false (.t 10))), (.s 50 (.iS (.t 48) (.t 49))), (.s 51 (.ci .u32 (.t 50))), (.s 52 (.bo .add 0 (.t 47) (.t 51))), (.s 8 (.mv true (.t 52)))]) 
  (.seq (.r [(.s 53 (.mv false (.t 8))), (.s 54 (.mv false (.t 6))), (.s 55 (.mv false (.t 0))), (.s 56 (.mv false (.t 10))), (.s 57 (.mv false (.t 7))), (.s 58 (.bo .sub 0 (.t 56) (.t 57))), (.s 59 (.iS (.t 55) (.t 58))), (.s 60 (.ci .u32 (.t 59))), (.s 61 (.bo .mul 0 (.t 54) (.t 60))), (.s 62 (.bo .sub 0 (.t 53) (.t 61))), (.s 8 (.mv true (.t 62)))]) 
  (.seq (.r [(.s 63 (.mv false (.t 10))), (.s 64 (.bo .add 0 (.t 63) (.c (.int .i64 1)))), (.s 10 (.mv true (.t 64)))]) 
  (.seq (.r [(.s 65 (.mv false (.t 8))), (.s 66 (.mv false (.t 5))), (.s 67 (.bo .eql 0 (.t 65) (.t 66))), (.s 68 (.mv true (.t 67))), (.g 68 true 69 (.mv false (.t 0))), (.g 68 true 70 (.mv false (.t 10))), (.g 68 true 71 (.mv false (.t 7))), (.g 68 true 72 (.bo .sub 0 (.t 70) (.t 71))), (.g 68 true 73 (.mv false (.t 10))), (.g 68 true 74 (.sS (.t 69) (some (.t 72)) (some (.t 73)))), (.g 68 true 75 (.mv false (.t 1))), (.g 68 true 76 (.bo .eql 0 (.t 74) (.t 75))), (.s 77 (.pk (.t 68) (.t 76) (.c (.bool false))))]) (.cond (.t 77) 
  (.seq (.r [(.s 78 (.mv false (.t 10))), (.s 79 (.mv false (.t 7))), (.s 80 (.bo .sub 0 (.t 78) (.t 79))), (.s 4 (.mv true (.t 80)))]) .ret) .skip))))))))
def l_bytealg_IndexRabinKarp_string_1 : CC :=
  
  (.seq 
  (.seq (.r [(.s 18 (.mv false (.t 9))), (.s 19 (.mv false (.t 7))), (.s 20 (.bo .lss 0 (.t 18) (.t 19)))]) (.cond (.t 20) .skip (.exit 0))) 
  (.seq (.block 1 (.r [(.s 23 (.mv false (.t 8))), (.s 24 (.bo .mul 0 (.t 23) (.c (.int .u32 16777619)))), (.s 25 (.mv false (.t 0))), (.s 26 (.mv false (.t 9))), (.s 27 (.iS (.t 25) (.t 26))), (.s 28 (.ci .u32 (.t 27))), (.s 29 (.bo .add 0 (.t 24) (.t 28))), (.s 8 (.mv true (.t 29)))])) (.r [(.s 21 (.mv false (.t 9))), (.s 22 (.bo .add 0 (.t 21) (.c (.int .i64 1)))), (.s 9 (.mv true (.t 22)))])))
def c_bytealg_IndexRabinKarp_string (x_bytealg_hashStr_string : Nat) : CF :=
  (.mk 81 
  (.seq (.r [(.s 4 (.mv false (.c (.int .i64 0))))]) 
  (.seq (.r [(.s 12 (.mv false (.t 1))), (.s 13 (.cl (.c (.func x_bytealg_hashStr_string [] [])) [(.t 12)])), (.s 11 (.mv true (.t 13))), (.s 14 (.ex (.t 11) 0)), (.s 15 (.ex (.t 11) 1)), (.s 5 (.mv true (.t 14))), (.s 6 (.mv true (.t 15)))]) 
  (.seq (.r [(.s 16 (.mv false (.t 1))), (.s 17 (.le false (.t 16))), (.s 7 (.mv true (.t 17)))]) 
  (.seq (.r [(.s 8 (.mv false (.c (.int .u32 0))))]) 
  (.seq 
  (.seq (.r [(.s 9 (.mv false (.c (.int .i64 0))))]) (.block 0 (.loop l_bytealg_IndexRabinKarp_string_1))) 
  (.seq 
  (.seq (.r [(.s 30 (.mv false (.t 8))), (.s 31 (.mv false (.t 5))), (.s 32 (.bo .eql 0 (.t 30) (.t 31))), (.s 33 (.mv true (.t 32))), (.g 33 true 34 (.mv false (.t 0))), (.g 33 true 35 (.mv false (.t 7))), (.g 33 true 36 (.sS (.t 34) none (some (.t 35)))), (.g 33 true 37 (.mv false (.t 1))), (.g 33 true 38 (.bo .eql 0 (.t 36) (.t 37))), (.s 39 (.pk (.t 33) (.t 38) (.c (.bool false))))]) (.cond (.t 39) 
  (.seq (.r [(.s 4 (.mv false (.c (.int .i64 0))))]) .ret) .skip)) 
  (.seq 
  (.seq (.r [(.s 40 (.mv false (.t 7))), (.s 10 (.mv true (.t 40)))]) (.block 2 (.loop l_bytealg_IndexRabinKarp_string_0))) 
  (.seq (.r [(.s 4 (.mv false (.c (.int .i64 (-1)))))]) .ret)))))))) [(.t 4)])
def c_utf8_ValidRune : CF :=
  (.mk 17 
  (.seq (.r [(.s 2 (.mv false (.c (.bool false))))]) 
  (.seq (.block 0 
  (.seq (.r [(.s 4 (.mv false (.t 0))), (.s 5 (.bo .leq 0 (.c (.int .i32 0)) (.t 4))), (.s 6 (.mv true (.t 5))), (.g 6 true 7 (.mv false (.t 0))), (.g 6 true 8 (.bo .lss 0 (.t 7) (.c (.int .i32 55296)))), (.s 9 (.pk (.t 6) (.t 8) (.c (.bool false)))), (.s 3 (.mv true (.t 9)))]) (.cond (.t 3) 
  (.seq (.r [(.s 2 (.mv false (.c (.bool true))))]) .ret) 
  (.seq (.r [(.s 11 (.mv false (.t 0))), (.s 12 (.bo .lss 0 (.c (.int .i32 57343)) (.t 11))), (.s 13 (.mv true (.t 12))), (.g 13 true 14 (.mv false (.t 0))), (.g 13 true 15 (.bo .leq 0 (.t 14) (.c (.int .i32 1114111)))), (.s 16 (.pk (.t 13) (.t 15) (.c (.bool false)))), (.s 10 (.mv true (.t 16)))]) (.cond (.t 10) 
  (.seq (.r [(.s 2 (.mv false (.c (.bool true))))]) .ret) .skip))))) 
  (.seq (.r [(.s 2 (.mv false (.c (.bool false))))]) .ret))) [(.t 2)])
def l_slices_Index_string_0 : CC :=
  
  (.seq (.r [(.s 9 (.bo .lss 0 (.t 8) (.t 7)))]) 
  (.seq (.cond (.t 9) .skip (.exit 0)) 
  (.seq (.block 1 
  (.seq (.r [(.s 10 (.mv false (.t 8))), (.s 5 (.mv true (.t 10)))]) 
  (.seq (.r [(.s 11 (.mv false (.t 1))), (.s 12 (.mv false (.t 0))), (.s 13 (.mv false (.t 5))), (.s 14 (.ia 1 (.t 12) (.t 13))), (.s 15 (.ld false none (.t 14))), (.s 16 (.bo .eql 0 (.t 11) (.t 15)))]) (.cond (.t 16) 
  (.seq (.r [(.s 17 (.mv false (.t 5))), (.s 4 (.mv true (.t 17)))]) .ret) .skip)))) (.r [(.s 18 (.bo .add 0 (.t 8) (.c (.int .i64 1)))), (.s 8 (.mv true (.t 18)))]))))
def c_slices_Index_string : CF :=
  (.mk 19 
  (.seq (.r [(.s 4 (.mv false (.c (.int .i64 0))))]) 
  (.seq 
  (.seq (.r [(.s 6 (.mv false (.t 0))), (.s 7 (.le true (.t 6))), (.s 8 (.mv false (.c (.int .i64 0))))]) (.block 0 (.loop l_slices_Index_string_0))) 
  (.seq (.r [(.s 4 (.mv false (.c (.int .i64 (-1)))))]) .ret))) [(.t 4)])
def l_slices_EqualFunc_string_0 : CC :=
  
  (.seq (.r [(.s 18 (.bo .lss 0 (.t 17) (.t 16)))]) 
  (.seq (.cond (.t 18) .skip (.exit 0)) 
  (.seq (.block 1 
  (.seq (.r [(.s 19 (.mv false (.t 17))), (.s 20 (.ia 1 (.t 15) (.t 17))), (.s 21 (.ld false none (.t 20))), (.s 7 (.mv true (.t 19))), (.s 8 (.mv true (.t 21)))]) 
  (.seq (.r [(.s 22 (.mv false (.t 1))), (.s 23 (.mv false (.t 7))), (.s 24 (.ia 1 (.t 22) (.t 23))), (.s 25 (.ld false none (.t 24))), (.s 9 (.mv true (.t 25)))]) 
  (.seq (.r [(.s 26 (.mv false (.t 2))), (.s 27 (.mv false (.t 8))), (.s 28 (.mv false (.t 9))), (.s 29 (.cl (.t 26) [(.t 27), (.t 28)])), (.s 30 (.uo .not (.t 29)))]) (.cond (.t 30) 
  (.seq (.r [(.s 6 (.mv false (.c (.bool false))))]) .ret) .skip))))) (.r [(.s 31 (.bo .add 0 (.t 17) (.c (.int .i64 1)))), (.s 17 (.mv true (.t 31)))]))))
def c_slices_EqualFunc_string : CF :=
  (.mk 32 
  (.seq (.r [(.s 6 (.mv false (.c (.bool false))))]) 
  (.seq 
  (.seq (.r [(.s 10 (.mv false (.t 0))), (.s 11 (.le true (.t 10))), (.s 12 (.mv false (.t 1))), (.s 13 (.le true (.t 12))), (.s 14 (.bo .neq 0 (.t 11) (.t 13)))]) (.cond (.t 14) 
  (.seq (.r [(.s 6 (.mv false (.c (.bool false))))]) .ret) .skip)) 
  (.seq 
  (.seq (.r [(.s 15 (.mv false (.t 0))), (.s 16 (.le true (.t 15))), (.s 17 (.mv false (.c (.int .i64 0))))]) (.block 0 (.loop l_slices_EqualFunc_string_0))) 
  (.seq (.r [(.s 6 (.mv false (.c (.bool true))))]) .ret)))) [(.t 6)])
def c_tree_fits_1 : CF :=
  (.mk 12 
  (.seq (.r [(.s 4 (.mv false (.c (.bool false))))]) 
  (.seq (.r [(.s 5 (.mv false (.t 0))), (.s 6 (.mv false (.t 1))), (.s 7 (.bo .eql 0 (.t 5) (.t 6))), (.s 8 (.mv true (.t 7))), (.g 8 false 9 (.mv false (.t 1))), (.g 8 false 10 (.bo .eql 0 (.t 9) (.c (.str [60, 42, 62])))), (.s 11 (.pk (.t 8) (.c (.bool true)) (.t 10))), (.s 4 (.mv true (.t 11)))]) .ret)) [(.t 4)])
def l_bytealg_hashStr_string_0 : CC :=
  
  (.seq 
  (.seq (.r [(.s 24 (.mv false (.t 8))), (.s 25 (.bo .gtr 0 (.t 24) (.c (.int .i64 0))))]) (.cond (.t 25) .skip (.exit 2))) 
  (.seq (.block 3 
  (.seq 
  (.seq (.r [(.s 28 (.mv false (.t 8))), (.s 29 (.bo .and 0 (.t 28) (.c (.int .i64 1)))), (.s 30 (.bo .neq 0 (.t 29) (.c (.int .i64 0))))]) (.cond (.t 30) (.r [(.s 31 (.mv false (.t 6))), (.s 32 (.mv false (.t 7))), (.s 33 (.bo .mul 0 (.t 31) (.t 32))), (.s 6 (.mv true (.t 33)))]) .skip)) (.r [(.s 34 (.mv false (.t 7))), (.s 35 (.mv false (.t 7))), (.s 36 (.bo .mul 0 (.t 34) (.t 35))), (.s 7 (.mv true (.t 36)))]))) (.r [(.s 26 (.mv false (.t 8))), (.s 27 (.bo .shr 0 (.t 26) (.c (.int .u64 1)))), (.s 8 (.mv true (.t 27)))])))
def l_bytealg_hashStr_string_1 : CC :=
  
  (.seq 
  (.seq (.r [(.s 9 (.mv false (.t 5))), (.s 10 (.mv false (.t 0))), (.s 11 (.le false (.t 10))), (.s 12 (.bo .lss 0 (.t 9) (.t 11)))]) (.cond (.t 12) .skip (.exit 0))) 
  (.seq (.block 1 (.r [(.s 15 (.mv false (.t 4))), (.s 16 (.bo .mul 0 (.t 15) (.c (.int .u32 16777619)))), (.s 17 (.mv false (.t 0))), (.s 18 (.mv false (.t 5))), (.s 19 (.iS (.t 17) (.t 18))), (.s 20 (.ci .u32 (.t 19))), (.s 21 (.bo .add 0 (.t 16) (.t 20))), (.s 4 (.mv true (.t 21)))])) (.r [(.s 13 (.mv false (.t 5))), (.s 14 (.bo .add 0 (.t 13) (.c (.int .i64 1)))), (.s 5 (.mv true (.t 14)))])))
def c_bytealg_hashStr_string : CF :=
  (.mk 39 
  (.seq (.r [(.s 2 (.mv false (.c (.int .u32 0)))), (.s 3 (.mv false (.c (.int .u32 0))))]) 
  (.seq (.r [(.s 4 (.mv false (.c (.int .u32 0))))]) 
  (.seq 
  (.seq (.r [(.s 5 (.mv false (.c (.int .i64 0))))]) (.block 0 (.loop l_bytealg_hashStr_string_1))) 
  (.seq (.r [(.s 6 (.mv false (.c (.int .u32 1)))), (.s 7 (.mv false (.c (.int .u32 16777619))))]) 
  (.seq 
  (.seq (.r [(.s 22 (.mv false (.t 0))), (.s 23 (.le false (.t 22))), (.s 8 (.mv true (.t 23)))]) (.block 2 (.loop l_bytealg_hashStr_string_0))) 
  (.seq (.r [(.s 37 (.mv false (.t 4))), (.s 38 (.mv false (.t 6))), (.s 2 (.mv true (.t 37))), (.s 3 (.mv true (.t 38)))]) .ret)))))) [(.t 2), (.t 3)])
end Go.Vw.Wm
end
section
/- The functions of this seat. -/
namespace Go.Vw.Wm
open Go Go.RowKit Go.Abs Go.Vw
def KS : Knobs := ⟨fun _ _ => false, fun f => [22, 27, 28, 31, 33, 41, 44, 52, 53, 55, 56, 57, 58, 67, 68, 72].contains f, fun f => !([26, 49, 50, 51, 65, 69, 70, 71, 74, 75].contains f), fun _ => true⟩
theorem h_gosem_cut_init : Has Go.Proofs.Try.prog KS 2 false (c_gosem_cut_init 1) := ⟨by kernel_rfl, rfl, rfl, rfl⟩
theorem h_law14_TreeNames : Has Go.Proofs.Try.prog KS 3 false (c_law14_TreeNames 7 8 9 10) := ⟨by kernel_rfl, rfl, rfl, rfl⟩
theorem h_law14_TreeReads : Has Go.Proofs.Try.prog KS 4 false (c_law14_TreeReads 11 7 13 12 14 15) := ⟨by kernel_rfl, rfl, rfl, rfl⟩
theorem h_law14_TreeBack : Has Go.Proofs.Try.prog KS 5 false (c_law14_TreeBack 15 17 16 8 7 18 19 13) := ⟨by kernel_rfl, rfl, rfl, rfl⟩
theorem h_law14_TreeWrites : Has Go.Proofs.Try.prog KS 6 false (c_law14_TreeWrites 17 16 8 20 18 21 9 22 13 12 14 15) := ⟨by kernel_rfl, rfl, rfl, rfl⟩
theorem h_tree_Parse : Has Go.Proofs.Try.prog KS 7 false (c_tree_Parse 23 24) := ⟨by kernel_rfl, rfl, rfl, rfl⟩
theorem h_tree_Print : Has Go.Proofs.Try.prog KS 8 false (c_tree_Print 25 26 65 5) := ⟨by kernel_rfl, rfl, rfl, rfl⟩
theorem h_tree_Find : Has Go.Proofs.Try.prog KS 9 false (c_tree_Find 27 28) := ⟨by kernel_rfl, rfl, rfl, rfl⟩
theorem h_tree_Merge : Has Go.Proofs.Try.prog KS 10 false (c_tree_Merge 29 31 28 10 30) := ⟨by kernel_rfl, rfl, rfl, rfl⟩
theorem h_ref14_Parse : Has Go.Proofs.Try.prog KS 11 false (c_ref14_Parse 32 33 34 35) := ⟨by kernel_rfl, rfl, rfl, rfl⟩
theorem h_ref14_Exact : Has Go.Proofs.Try.prog KS 12 false (c_ref14_Exact 21) := ⟨by kernel_rfl, rfl, rfl, rfl⟩
theorem h_law14_rows : Has Go.Proofs.Try.prog KS 13 false (c_law14_rows 13) := ⟨by kernel_rfl, rfl, rfl, rfl⟩
theorem h_law14_spoil : Has Go.Proofs.Try.prog KS 14 false (c_law14_spoil 14) := ⟨by kernel_rfl, rfl, rfl, rfl⟩
theorem h_law14_awake : Has Go.Proofs.Try.prog KS 15 false (c_law14_awake 7 36 8) := ⟨by kernel_rfl, rfl, rfl, rfl⟩
theorem h_law14_nodes : Has Go.Proofs.Try.prog KS 16 false (c_law14_nodes 16) := ⟨by kernel_rfl, rfl, rfl, rfl⟩
theorem h_law14_good : Has Go.Proofs.Try.prog KS 17 false c_law14_good := ⟨by kernel_rfl, rfl, rfl, rfl⟩
theorem h_tree_Same : Has Go.Proofs.Try.prog KS 18 false (c_tree_Same 37 38) := ⟨by kernel_rfl, rfl, rfl, rfl⟩
theorem h_law14_wide : Has Go.Proofs.Try.prog KS 19 false c_law14_wide := ⟨by kernel_rfl, rfl, rfl, rfl⟩
theorem h_ref14_Print : Has Go.Proofs.Try.prog KS 20 false (c_ref14_Print 39 40) := ⟨by kernel_rfl, rfl, rfl, rfl⟩
theorem h_ref14_Same : Has Go.Proofs.Try.prog KS 21 false (c_ref14_Same 41) := ⟨by kernel_rfl, rfl, rfl, rfl⟩
theorem h_law14_same : Has Go.Proofs.Try.prog KS 22 true c_law14_same := ⟨by kernel_rfl, rfl, rfl, rfl⟩
theorem h_lex_Tokens : Has Go.Proofs.Try.prog KS 23 false (c_lex_Tokens 42 43) := ⟨by kernel_rfl, rfl, rfl, rfl⟩
theorem h_tree_reader_list : Has Go.Proofs.Try.prog KS 24 false (c_tree_reader_list 44 45 46 47) := ⟨by kernel_rfl, rfl, rfl, rfl⟩
theorem h_tree_write : Has Go.Proofs.Try.prog KS 25 false (c_tree_write 48 49 51 50 25) := ⟨by kernel_rfl, rfl, rfl, rfl⟩
theorem h_slices_Equal_string : Has Go.Proofs.Try.prog KS 27 true c_slices_Equal_string := ⟨by kernel_rfl, rfl, rfl, rfl⟩
theorem h_tree_twins : Has Go.Proofs.Try.prog KS 28 true (c_tree_twins 31) := ⟨by kernel_rfl, rfl, rfl, rfl⟩
theorem h_slices_IndexFunc_tree_Node : Has Go.Proofs.Try.prog KS 29 false c_slices_IndexFunc_tree_Node := ⟨by kernel_rfl, rfl, rfl, rfl⟩
theorem h_tree_Merge_1 : Has Go.Proofs.Try.prog KS 30 false (c_tree_Merge_1 27) := ⟨by kernel_rfl, rfl, rfl, rfl⟩
theorem h_tree_twin : Has Go.Proofs.Try.prog KS 31 true (c_tree_twin 52 53 28) := ⟨by kernel_rfl, rfl, rfl, rfl⟩
theorem h_ref07_Tokens : Has Go.Proofs.Try.prog KS 32 false (c_ref07_Tokens 54 55 56 57 58) := ⟨by kernel_rfl, rfl, rfl, rfl⟩
theorem h_ref14_state_kind : Has Go.Proofs.Try.prog KS 33 true c_ref14_state_kind := ⟨by kernel_rfl, rfl, rfl, rfl⟩
theorem h_ref14_state_one : Has Go.Proofs.Try.prog KS 34 false (c_ref14_state_one 33 59 35) := ⟨by kernel_rfl, rfl, rfl, rfl⟩
theorem h_ref14_state_fail : Has Go.Proofs.Try.prog KS 35 false c_ref14_state_fail := ⟨by kernel_rfl, rfl, rfl, rfl⟩
theorem h_tree_Inherit : Has Go.Proofs.Try.prog KS 36 false (c_tree_Inherit 10 60 61 62 64 63) := ⟨by kernel_rfl, rfl, rfl, rfl⟩
theorem h_slices_EqualFunc_tree_Node : Has Go.Proofs.Try.prog KS 37 false c_slices_EqualFunc_tree_Node := ⟨by kernel_rfl, rfl, rfl, rfl⟩
theorem h_tree_Same_1 : Has Go.Proofs.Try.prog KS 38 false (c_tree_Same_1 27 18) := ⟨by kernel_rfl, rfl, rfl, rfl⟩
theorem h_ref14_blanks : Has Go.Proofs.Try.prog KS 39 false c_ref14_blanks := ⟨by kernel_rfl, rfl, rfl, rfl⟩
theorem h_ref14_quoted : Has Go.Proofs.Try.prog KS 40 false c_ref14_quoted := ⟨by kernel_rfl, rfl, rfl, rfl⟩
theorem h_ref14_same : Has Go.Proofs.Try.prog KS 41 true c_ref14_same := ⟨by kernel_rfl, rfl, rfl, rfl⟩
theorem h_lex_check : Has Go.Proofs.Try.prog KS 42 false c_lex_check := ⟨by kernel_rfl, rfl, rfl, rfl⟩
theorem h_lex_reader_token : Has Go.Proofs.Try.prog KS 43 false (c_lex_reader_token 65 66 67 69 70 71 68 72) := ⟨by kernel_rfl, rfl, rfl, rfl⟩
theorem h_tree_reader_next : Has Go.Proofs.Try.prog KS 44 true c_tree_reader_next := ⟨by kernel_rfl, rfl, rfl, rfl⟩
theorem h_tree_reader_fail : Has Go.Proofs.Try.prog KS 45 false c_tree_reader_fail := ⟨by kernel_rfl, rfl, rfl, rfl⟩
theorem h_tree_reader_off : Has Go.Proofs.Try.prog KS 46 false c_tree_reader_off := ⟨by kernel_rfl, rfl, rfl, rfl⟩
theorem h_tree_reader_statement : Has Go.Proofs.Try.prog KS 47 false (c_tree_reader_statement 73 44 46 52 53 45 24) := ⟨by kernel_rfl, rfl, rfl, rfl⟩
theorem h_tree_quoted : Has Go.Proofs.Try.prog KS 48 false (c_tree_quoted 74 75) := ⟨by kernel_rfl, rfl, rfl, rfl⟩
theorem h_slices_Clone_string : Has Go.Proofs.Try.prog KS 52 true c_slices_Clone_string := ⟨by kernel_rfl, rfl, rfl, rfl⟩
theorem h_slices_Clone_api_Pos : Has Go.Proofs.Try.prog KS 53 true c_slices_Clone_api_Pos := ⟨by kernel_rfl, rfl, rfl, rfl⟩
theorem h_ref07_Check : Has Go.Proofs.Try.prog KS 54 false (c_ref07_Check 57) := ⟨by kernel_rfl, rfl, rfl, rfl⟩
theorem h_ref07_begins : Has Go.Proofs.Try.prog KS 55 true c_ref07_begins := ⟨by kernel_rfl, rfl, rfl, rfl⟩
theorem h_ref07_closed : Has Go.Proofs.Try.prog KS 56 true c_ref07_closed := ⟨by kernel_rfl, rfl, rfl, rfl⟩
theorem h_ref07_at : Has Go.Proofs.Try.prog KS 57 true c_ref07_at := ⟨by kernel_rfl, rfl, rfl, rfl⟩
theorem h_ref07_sign : Has Go.Proofs.Try.prog KS 58 true c_ref07_sign := ⟨by kernel_rfl, rfl, rfl, rfl⟩
theorem h_ref14_state_word : Has Go.Proofs.Try.prog KS 59 false c_ref14_state_word := ⟨by kernel_rfl, rfl, rfl, rfl⟩
theorem h_tree_outer : Has Go.Proofs.Try.prog KS 60 false c_tree_outer := ⟨by kernel_rfl, rfl, rfl, rfl⟩
theorem h_tree_book : Has Go.Proofs.Try.prog KS 61 false (c_tree_book 80) := ⟨by kernel_rfl, rfl, rfl, rfl⟩
theorem h_tree_known : Has Go.Proofs.Try.prog KS 62 false (c_tree_known 81 62) := ⟨by kernel_rfl, rfl, rfl, rfl⟩
theorem h_tree_inherited : Has Go.Proofs.Try.prog KS 64 false (c_tree_inherited 81 64 82) := ⟨by kernel_rfl, rfl, rfl, rfl⟩
theorem h_lex_reader_take : Has Go.Proofs.Try.prog KS 66 false c_lex_reader_take := ⟨by kernel_rfl, rfl, rfl, rfl⟩
theorem h_lex_reader_until : Has Go.Proofs.Try.prog KS 67 true c_lex_reader_until := ⟨by kernel_rfl, rfl, rfl, rfl⟩
theorem h_lex_reader_token_1 : Has Go.Proofs.Try.prog KS 68 true c_lex_reader_token_1 := ⟨by kernel_rfl, rfl, rfl, rfl⟩
theorem h_lex_reader_ends : Has Go.Proofs.Try.prog KS 72 true (c_lex_reader_ends 65 69) := ⟨by kernel_rfl, rfl, rfl, rfl⟩
theorem h_tree_reader_words : Has Go.Proofs.Try.prog KS 73 false (c_tree_reader_words 44 46) := ⟨by kernel_rfl, rfl, rfl, rfl⟩
theorem h_bits_Mul : Has Go.Proofs.Try.prog KS 76 false (c_bits_Mul 90 91) := ⟨by kernel_rfl, rfl, rfl, rfl⟩
theorem h_strings_Builder_Len : Has Go.Proofs.Try.prog KS 78 false c_strings_Builder_Len := ⟨by kernel_rfl, rfl, rfl, rfl⟩
theorem h_tree_book_1 : Has Go.Proofs.Try.prog KS 80 false (c_tree_book_1 81) := ⟨by kernel_rfl, rfl, rfl, rfl⟩
theorem h_tree_applies : Has Go.Proofs.Try.prog KS 81 false c_tree_applies := ⟨by kernel_rfl, rfl, rfl, rfl⟩
theorem h_tree_pass : Has Go.Proofs.Try.prog KS 82 false (c_tree_pass 94 31 97 98 82 95) := ⟨by kernel_rfl, rfl, rfl, rfl⟩
theorem h_stringslite_IndexByte : Has Go.Proofs.Try.prog KS 83 false (c_stringslite_IndexByte 99) := ⟨by kernel_rfl, rfl, rfl, rfl⟩
theorem h_stringslite_HasPrefix : Has Go.Proofs.Try.prog KS 84 false c_stringslite_HasPrefix := ⟨by kernel_rfl, rfl, rfl, rfl⟩
theorem h_stringslite_Index : Has Go.Proofs.Try.prog KS 85 false (c_stringslite_Index 83 100 101 102) := ⟨by kernel_rfl, rfl, rfl, rfl⟩
theorem h_strings_shouldUseASCIISet : Has Go.Proofs.Try.prog KS 87 false c_strings_shouldUseASCIISet := ⟨by kernel_rfl, rfl, rfl, rfl⟩
theorem h_bits_Mul32 : Has Go.Proofs.Try.prog KS 90 false c_bits_Mul32 := ⟨by kernel_rfl, rfl, rfl, rfl⟩
theorem h_bits_Mul64 : Has Go.Proofs.Try.prog KS 91 false c_bits_Mul64 := ⟨by kernel_rfl, rfl, rfl, rfl⟩
theorem h_slices_ContainsFunc_tree_Node : Has Go.Proofs.Try.prog KS 94 false (c_slices_ContainsFunc_tree_Node 29) := ⟨by kernel_rfl, rfl, rfl, rfl⟩
theorem h_tree_pass_1 : Has Go.Proofs.Try.prog KS 95 false (c_tree_pass_1 96) := ⟨by kernel_rfl, rfl, rfl, rfl⟩
theorem h_tree_inPlace : Has Go.Proofs.Try.prog KS 96 false (c_tree_inPlace 27) := ⟨by kernel_rfl, rfl, rfl, rfl⟩
theorem h_slices_Contains_string : Has Go.Proofs.Try.prog KS 97 false (c_slices_Contains_string 105) := ⟨by kernel_rfl, rfl, rfl, rfl⟩
theorem h_tree_fits : Has Go.Proofs.Try.prog KS 98 false (c_tree_fits 106 107) := ⟨by kernel_rfl, rfl, rfl, rfl⟩
theorem h_bytealg_Cutover : Has Go.Proofs.Try.prog KS 101 false c_bytealg_Cutover := ⟨by kernel_rfl, rfl, rfl, rfl⟩
theorem h_bytealg_IndexRabinKarp_string : Has Go.Proofs.Try.prog KS 102 false (c_bytealg_IndexRabinKarp_string 108) := ⟨by kernel_rfl, rfl, rfl, rfl⟩
theorem h_utf8_ValidRune : Has Go.Proofs.Try.prog KS 103 false c_utf8_ValidRune := ⟨by kernel_rfl, rfl, rfl, rfl⟩
theorem h_slices_Index_string : Has Go.Proofs.Try.prog KS 105 false c_slices_Index_string := ⟨by kernel_rfl, rfl, rfl, rfl⟩
theorem h_slices_EqualFunc_string : Has Go.Proofs.Try.prog KS 106 false c_slices_EqualFunc_string := ⟨by kernel_rfl, rfl, rfl, rfl⟩
theorem h_tree_fits_1 : Has Go.Proofs.Try.prog KS 107 false c_tree_fits_1 := ⟨by kernel_rfl, rfl, rfl, rfl⟩
theorem h_bytealg_hashStr_string : Has Go.Proofs.Try.prog KS 108 false c_bytealg_hashStr_string := ⟨by kernel_rfl, rfl, rfl, rfl⟩
end Go.Vw.Wm
end
section
/- Contracts of library functions, for the first evaluator. -/
namespace Go.Abs
open Go Go.RowKit
section
variable {P : Program} {w0 w w' : World} {L : Nat} {m : M} {H : AH}
/-- New blocks of the world, of which nothing is asked. -/
theorem R.later (h : R w0 L m H w) (hb : Below w.heap.size w w') : Step m H w m H w' ∧ R w0 L m H w' := by
  exact ⟨Step.world hb, h.below' hb⟩
theorem ext_later {f : Nat} {us : Array Value} {u : Value} {v : AV} (hR : R w0 L m H w) (hv : VR m v u) (hc : Calls P f us w fun e w' => e = .returned u ∧ Below w.heap.size w w') : Calls P f us w fun e w' => ∃ u m', e = .returned u ∧ Step m H w m' H w' ∧ VR m' v u ∧ R w0 L m' H w' :=
  hc.mono (fun e w' ⟨h1, h2⟩ => ⟨u, m, h1, (hR.later h2).1, hv, (hR.later h2).2⟩)
theorem ext_same {f : Nat} {us : Array Value} {u : Value} {v : AV} (hR : R w0 L m H w) (hv : VR m v u) (hc : Calls P f us w fun e w' => e = .returned u ∧ w' = w) : Calls P f us w fun e w' => ∃ u m', e = .returned u ∧ Step m H w m' H w' ∧ VR m' v u ∧ R w0 L m' H w' :=
  ext_later hR hv (hc.mono (fun e w' ⟨h1, h2⟩ => ⟨h1, by rw [h2]; exact Below.refl _ _⟩))
end
end Go.Abs
end
section
/- A builder's methods, for the first evaluator. -/
namespace Go.Abs
open Go Go.RowKit
set_option linter.unusedVariables false

/-- append, as it runs. -/
theorem wpList_append_eq {P : Program} {w : World} {ops : Array Oper} {rest : List Oper} {o : Oper} {a : Act} {Q : Exit → Act → World → Prop} (hgd : o.guard = none) (sl x : Operand) (t u : TypeId)
    (ho : o.op = .call { callee := .builtin .append, args := #[sl, x], argTypes := #[t, u] }) (us ux : Value) (hs : a.eval sl = us) (hx : a.eval x = ux) (v' : Value) (w' : World)
    (hr : (Builtin.append_ #[t, u] o.type #[us, ux]).run P w = .ok v' w') (h : wpList P ops Q rest (a.put o.dst v') w') : wpList P ops Q (o :: rest) a w := by
  refine wpList_plain hgd fun K hK => ?_
  unfold Oper.wp execOp
  simp only [ho, resolve, invoke, builtin, Sem.run_bind, Sem.run_pure, Result.andThen_ok, List.map_toArray, List.map_cons, List.map_nil, hs, hx, hr]
  exact hK _ _ h

section
variable {P : Program} {w0 w : World} {L : Nat} {m : M} {H : AH}

/-- A builder's two cells in the world. -/
theorem R.builder (h : R w0 L m H w) {b : Nat} {ad sl : AV} {t : TypeId} (hb : H.get b = some (.cells [ad, sl] true)) (ht : H.ty.get b = some (t, some 2)) :
    ∃ g u0 u1, m b = some (g, 0, 2) ∧ w.shape? g = some (t, 2) ∧ w.cell? ⟨g, 0, none⟩ = some u0 ∧ VR m ad u0 ∧ w.cell? ⟨g, 1, none⟩ = some u1 ∧ VR m sl u1 ∧ w.frozen? ⟨g, 0, none⟩ = false ∧ w.frozen? ⟨g, 1, none⟩ = false := by
  obtain ⟨q, q1, q2, q3, q4⟩ := h.ty b _ ht
  obtain ⟨q', q1', h1, h2, h3⟩ := h.dom b _ hb
  rw [q1] at q1'
  simp only [Option.some.injEq] at q1'
  subst q1'
  obtain ⟨g, o, n⟩ := q
  have q5 : n = 2 := q4 2 rfl
  clear q4
  simp only at q2 q3 h1 h2
  subst q2; subst q5
  obtain ⟨_, u0, k1, k2⟩ := h2 0 ad rfl
  obtain ⟨_, u1, k3, k4⟩ := h2 1 sl rfl
  obtain ⟨_, cs, t', fr, e1, e2, e3⟩ := h3 rfl
  simp only at e2 e3
  exact ⟨g, u0, u1, q1, q3, k1, k2, k3, k4, e3 0 (by omega), e3 1 (by omega)⟩

/-- What is asked of copyCheck. -/
structure CopyW (P : Program) (tB : TypeId) (fc : Nat) : Prop where
  fresh : ∀ (b : Nat) (w : World), w.cell? ⟨b, 0, none⟩ = some (.pointer none) → w.shape? b = some (tB, 2) → w.frozen? ⟨b, 0, none⟩ = false →
    Calls P fc #[.pointer (some ⟨b, 0, none⟩)] w fun e w' => e = .returned (.tuple #[]) ∧ w' = w.setCell ⟨b, 0, none⟩ (.pointer (some ⟨b, 0, none⟩))
  used : ∀ (b : Nat) (w : World), w.cell? ⟨b, 0, none⟩ = some (.pointer (some ⟨b, 0, none⟩)) → Calls P fc #[.pointer (some ⟨b, 0, none⟩)] w fun e w' => e = .returned (.tuple #[]) ∧ w' = w
/-- How WriteString goes. -/
def WriteW (P : Program) (fw fc : Nat) (tS tStr : TypeId) : Prop := ∀ (g : Nat) (s : ByteArray) (w : World) (C Fin : World → Prop),
  (Calls P fc #[.pointer (some ⟨g, 0, none⟩)] w fun e w' => e = .returned (.tuple #[]) ∧ C w') →
  (∀ w1, C w1 → ∃ x1 ao n' cap w2 dv, w1.cell? ⟨g, 1, none⟩ = some x1 ∧ (Builtin.append_ #[tS, tStr] tS #[x1, .string s]).run P w1 = .ok (.slice ao n' cap) w2 ∧ w2.cell? ⟨g, 1, none⟩ = some dv ∧ w2.frozen? ⟨g, 1, none⟩ = false ∧ Fin (w2.setCell ⟨g, 1, none⟩ (.slice ao n' cap))) →
  Calls P fw #[.pointer (some ⟨g, 0, none⟩), .string s] w fun e w' => e = .returned (.tuple #[.int .i64 s.size, .nilIface]) ∧ Fin w'

/-- What copyCheck leaves. -/
def eCopy (tB : TypeId) (H : AH) (b : Nat) : Option AH :=
  match H.get b with
  | some (.cells [ad, sl] true) => if H.ty.get b = some (tB, some 2) then
      match ad with
      | .nilp => some (H.wput b (.cells [.ptr b 0, sl] true))
      | .ptr b' 0 => if b' = b then some H else none
      | _ => none
    else none
  | _ => none
theorem eCopy_does {tB : TypeId} {fc : Nat} (hC : CopyW P tB fc) {b : Nat} {H1 : AH} (h : R w0 L m H w) (he : eCopy tB H b = some H1) {u : Value} (hu : VR m (.ptr b 0) u) :
    H1.next = H.next ∧ Calls P fc #[u] w fun e w' => e = .returned (.tuple #[]) ∧ Step m H w m H1 w' ∧ R w0 L m H1 w' ∧ ∃ sl, H1.get b = some (.cells [.ptr b 0, sl] true) ∧ H1.ty.get b = some (tB, some 2) := by
  unfold eCopy at he
  split at he
  · rename_i ad sl hb
    split at he
    · rename_i ht
      obtain ⟨g, u0, u1, hm, hsh, c0, v0, c1, v1, f0, f1⟩ := h.builder hb ht
      have hu' : u = .pointer (some ⟨g, 0, none⟩) := by
        cases hu with
        | ptr _ _ g' o' n' hm' =>
          rw [hm] at hm'
          simp only [Option.some.injEq, Prod.mk.injEq] at hm'
          obtain ⟨rfl, rfl, rfl⟩ := hm'
          rfl
      subst hu'
      split at he
      · simp only [Option.some.injEq] at he
        subst he
        cases v0
        refine ⟨rfl, (hC.fresh g w c0 hsh f0).mono ?_⟩
        rintro e w' ⟨rfl, rfl⟩
        have hc : VRs m [.ptr b 0] [.pointer (some ⟨g, 0, none⟩)] := .cons _ _ _ _ (by have := VR.ptr (m := m) b 0 g 0 2 hm; simpa using this) .nil
        obtain ⟨k1, k2, _⟩ := h.store hb hm (off := 0) (c := [.ptr b 0]) (by simp) hc rfl
        have hset : w.setCells g (0 + 0) [.pointer (some ⟨g, 0, none⟩)] = w.setCell ⟨g, 0, none⟩ (.pointer (some ⟨g, 0, none⟩)) := rfl
        rw [hset] at k1 k2
        have hob : H.oldAt b = false := by
          cases e : H.oldAt b with
          | false => rfl
          | true => have := h.old b _ hb e; cases this
        exact ⟨rfl, k2, k1, sl, by rw [AH.get_wput H hb hob, if_pos rfl], ht⟩
      · rename_i b'
        split at he
        · rename_i e
          subst e
          simp only [Option.some.injEq] at he
          subst he
          have e0 : u0 = .pointer (some ⟨g, 0, none⟩) := by
            cases v0 with
            | ptr _ _ g' o' n' hm' =>
              rw [hm] at hm'
              simp only [Option.some.injEq, Prod.mk.injEq] at hm'
              obtain ⟨rfl, rfl, rfl⟩ := hm'
              rfl
          subst e0
          refine ⟨rfl, (hC.used g w c0).mono ?_⟩
          rintro e w' ⟨rfl, rfl⟩
          exact ⟨rfl, Step.refl _ _ _, h, sl, hb, ht⟩
        · cases he
      · cases he
    · cases he
  · cases he

def isSl : AV → Bool
  | .nils | .slice .. => true
  | _ => false
def eWriteString (P : Program) (tB uB : TypeId) : List AV → AH → Option (AV × AH)
  | [.ptr b 0, .str s], H => match eCopy tB H b with
    | some H1 => match H1.get b with
      | some (.cells [_, sl] true) => match appendT P H1 uB sl (.str s) with
        | some (v, H2) => match H2.get b with
          | some (.cells [a2, sl2] true) => if isSl v = true then some (.tuple [.int .i64 s.length, .nili], H2.wput b (.cells [a2, v] true)) else none
          | _ => none
        | none => none
      | _ => none
    | none => none
  | _, _ => none
theorem eWriteString_next {tB uB : TypeId} {args : List AV} {v : AV} {H' : AH} (he : eWriteString P tB uB args H = some (v, H')) : H.next ≤ H'.next := by
  unfold eWriteString at he
  split at he
  · split at he
    · rename_i H1 hcp
      have h1 : H1.next = H.next := by
        unfold eCopy at hcp
        repeat' split at hcp
        all_goals first
          | (cases hcp; done)
          | (simp only [Option.some.injEq] at hcp; subst hcp; rfl)
      split at he
      · split at he
        · rename_i v2 H2 happ
          have h2 := appendT_mono happ
          split at he
          · split at he
            · simp only [Option.some.injEq, Prod.mk.injEq] at he
              obtain ⟨_, rfl⟩ := he
              show H.next ≤ H2.next
              rw [← h1]
              exact h2
            · cases he
          · cases he
        · cases he
      · cases he
    · cases he
  · cases he
theorem eWriteString_does {tB uB tS tStr : TypeId} {fw fc : Nat} (hC : CopyW P tB fc) (hW : WriteW P fw fc tS tStr) (hS : P.underlying tS = some (.slice uB)) (hT : P.underlying tStr = some .string) {b : Nat} {s : List UInt8} {v : AV} {H' : AH} (h : R w0 L m H w) (he : eWriteString P tB uB [.ptr b 0, .str s] H = some (v, H')) (hL : H'.next ≤ L) {u : Value} (hu : VR m (.ptr b 0) u) :
    H.next ≤ H'.next ∧ Calls P fw #[u, .string ⟨s.toArray⟩] w fun e w' => ∃ u' m', e = .returned u' ∧ Step m H w m' H' w' ∧ VR m' v u' ∧ R w0 L m' H' w' := by
  simp only [eWriteString] at he
  split at he
  · rename_i H1 hcp
    obtain ⟨hn1, hcc⟩ := eCopy_does (w0 := w0) hC h hcp hu
    split at he
    · rename_i a1 sl hb1
      split at he
      · rename_i v2 H2 happ
        split at he
        · rename_i a2 sl2 hb2
          split at he
          · rename_i hcell
            simp only [Option.some.injEq, Prod.mk.injEq] at he
            obtain ⟨rfl, rfl⟩ := he
            have hL2 : H2.next ≤ L := hL
            have hmono : H1.next ≤ H2.next := by
              have ha := happ
              unfold appendT at ha
              simp only [Option.map_eq_some_iff, Prod.mk.injEq] at ha
              obtain ⟨⟨v', H3⟩, ha, rfl, rfl⟩ := ha
              rw [tagS_next]
              exact appendA_mono ha
            refine ⟨by show _ ≤ H2.next; omega, ?_⟩
            obtain ⟨g, hm0, hu0⟩ : ∃ g, (∃ n, m b = some (g, 0, n)) ∧ u = .pointer (some ⟨g, 0, none⟩) := by
              unfold eCopy at hcp
              split at hcp
              · rename_i ad sl0 hb0
                split at hcp
                · rename_i ht0
                  obtain ⟨g, _, _, hm, _⟩ := h.builder hb0 ht0
                  refine ⟨g, ⟨2, hm⟩, ?_⟩
                  cases hu with
                  | ptr _ _ g' o' n' hm' =>
                    rw [hm] at hm'
                    simp only [Option.some.injEq, Prod.mk.injEq] at hm'
                    obtain ⟨rfl, rfl, rfl⟩ := hm'
                    rfl
                · cases hcp
              · cases hcp
            subst hu0
            obtain ⟨n0, hm0⟩ := hm0
            refine (hW g ⟨s.toArray⟩ w (fun w1 => Step m H w m H1 w1 ∧ R w0 L m H1 w1 ∧ ∃ sl, H1.get b = some (.cells [.ptr b 0, sl] true) ∧ H1.ty.get b = some (tB, some 2))
              (fun w' => ∃ m', Step m H w m' (H2.wput b (.cells [a2, v2] true)) w' ∧ R w0 L m' (H2.wput b (.cells [a2, v2] true)) w') hcc ?_).mono ?_
            · rintro w1 ⟨hs1, hR1, sl', hb1', ht1⟩
              rw [hb1] at hb1'
              simp only [Option.some.injEq, AObj.cells.injEq, List.cons.injEq, and_true] at hb1'
              obtain ⟨rfl, rfl⟩ := hb1'
              obtain ⟨g1, x0, x1, hm1, _, c0, _, c1, vx1, _⟩ := hR1.builder hb1 ht1
              rw [hm0] at hm1
              simp only [Option.some.injEq, Prod.mk.injEq, true_and] at hm1
              obtain ⟨rfl, rfl⟩ := hm1
              obtain ⟨v2', w2, m2, hrun, hs2, hv2, hR2⟩ := appendT_does (u := tStr) hR1 hL2 hS hT (.inr rfl) vx1 (.str s) happ tS
              have hm2 := hs2.sub _ _ hm0
              have hc2 : VRs m2 [v2] [v2'] := .cons _ _ _ _ hv2 .nil
              obtain ⟨k1, k2, k3, k4⟩ := hR2.store hb2 hm2 (off := 1) (c := [v2]) (by simp) hc2 (by cases v2 <;> first | rfl | cases hcell)
              have hset : w2.setCells g (0 + 1) [v2'] = w2.setCell ⟨g, 1, none⟩ v2' := rfl
              rw [hset] at k1 k2
              have d1 := k3 0 (by simp)
              have f1 := k4 0 (by simp)
              simp only [Nat.zero_add, Nat.add_zero] at d1 f1
              obtain ⟨dv, d1⟩ := Option.isSome_iff_exists.1 d1
              obtain ⟨ao, n', cap, rfl⟩ : ∃ ao n' cap, v2' = .slice ao n' cap := by
                cases v2 <;> first | (cases hcell; done) | (cases hv2; exact ⟨_, _, _, rfl⟩)
              exact ⟨x1, ao, n', cap, w2, dv, c1, hrun, d1, f1, m2, (hs1.trans hs2).trans k2, k1⟩
            · rintro e w' ⟨rfl, m', k1, k2⟩
              exact ⟨_, m', rfl, k1, .tuple _ _ (.cons _ _ _ _ (.int _ _) (.cons _ _ _ _ .nili .nil)), k2⟩
          · cases he
        · cases he
      · cases he
    · cases he
  · cases he
end
end Go.Abs
end
section
/- A builder's text. -/
namespace Go.Abs
open Go Go.RowKit
set_option linter.unusedVariables false

theorem freeze_heap (w : World) (p : Addr) (n k : Nat) (h : k ≠ p.block) : (w.freeze p n).heap[k]? = w.heap[k]? := by
  unfold World.freeze
  split
  · rfl
  · simp only [Array.getElem?_modify]
    rw [if_neg (fun e => h e.symm)]
theorem freeze_cell (w : World) (p : Addr) (n : Nat) (q : Addr) : (w.freeze p n).cell? q = w.cell? q := by
  by_cases h : q.block = p.block
  · unfold World.cell?
    by_cases hn : n = 0
    · unfold World.freeze; rw [if_pos hn]
    · unfold World.freeze
      rw [if_neg hn]
      simp only [Array.getElem?_modify]
      rw [if_pos h.symm]
      cases w.heap[q.block]? with
      | none => rfl
      | some o => cases o <;> rfl
  · unfold World.cell?
    rw [freeze_heap w p n _ h]
theorem freeze_shape (w : World) (p : Addr) (n k : Nat) : (w.freeze p n).shape? k = w.shape? k := by
  by_cases h : k = p.block
  · unfold World.shape?
    by_cases hn : n = 0
    · unfold World.freeze; rw [if_pos hn]
    · unfold World.freeze
      rw [if_neg hn]
      simp only [Array.getElem?_modify]
      rw [if_pos h.symm]
      cases w.heap[k]? with
      | none => rfl
      | some o => cases o <;> rfl
  · exact shape_of_heap (freeze_heap w p n k h)
theorem freeze_size (w : World) (p : Addr) (n : Nat) : (w.freeze p n).heap.size = w.heap.size := by
  unfold World.freeze
  split <;> simp
theorem freeze_below (w : World) (p : Addr) (n B : Nat) {w1 : World} (hB : B ≤ p.block) (h : Below B w1 w) : Below B w1 (w.freeze p n) :=
  Lib.below_freeze h hB n
section
variable {P : Program} {w0 w : World} {L : Nat} {m : M} {H : AH}
/-- Nobody writes a block's cells any more. -/
theorem R.freeze (h : R w0 L m H w) {b : Nat} {vs : List AV} (hg : H.get b = some (.cells vs true)) {g o n : Nat} (hm : m b = some (g, o, n)) (x l : Nat) :
    R w0 L m (H.put b (some (.cells vs false))) (w.freeze ⟨g, x, none⟩ l) ∧ Step m H w m (H.put b (some (.cells vs false))) (w.freeze ⟨g, x, none⟩ l) := by
  obtain ⟨q, hq, h1, h2, h3⟩ := h.dom b _ hg
  rw [hm] at hq
  simp only [Option.some.injEq] at hq
  subst hq
  obtain ⟨hB, _⟩ := h3 rfl
  simp only at h1 h2 hB
  have hput := AH.get_put H hg (.cells vs false)
  have hob : H.oldAt b = false := by
    cases e : H.oldAt b with
    | false => rfl
    | true => have := h.old b _ hg e; cases this
  have hkin : ∀ j, (H.put b (some (.cells vs false))).kinAt j = H.kinAt j := fun j => AH.kinAt_put _ _ _ _ (fun _ => rfl)
  have hold : ∀ j, (H.put b (some (.cells vs false))).oldAt j = H.oldAt j := fun j => by
    rw [AH.oldAt_put]
    split
    · rename_i e; subst e; rfl
    · rfl
  have hsome : ∀ j y, (H.put b (some (.cells vs false))).get j = some y → (j = b ∧ y = .cells vs false) ∨ (j ≠ b ∧ H.get j = some y) := by
    intro j y hy
    rw [hput] at hy
    by_cases e : j = b
    · rw [if_pos e] at hy; simp only [Option.some.injEq] at hy; exact .inl ⟨e, hy.symm⟩
    · rw [if_neg e] at hy; exact .inr ⟨e, hy⟩
  refine ⟨⟨freeze_below w _ _ _ hB h.below, h.fresh, fun j hj => ?_, fun j q hq => by rw [freeze_size]; exact h.inb j q hq, fun j y hy => ?_, fun j j' y z q q' hy ho hz hne hq hq' => ?_, fun j y hy ho => ?_, h.tyS (Sub.refl m) (fun k _ => freeze_shape w _ _ k)⟩,
    ⟨Sub.refl m, Nat.le_refl _, fun _ hb _ => hb, fun k _ hn => freeze_heap w _ _ k (fun e => hn ⟨b, _, _, hg, rfl, hm, e.symm⟩), fun k _ ⟨j, y, q, e1, ho, e2, e3⟩ => ?_, fun k _ ⟨j, y, q, e1, e2, e3⟩ => ?_, by rw [freeze_size]; exact Nat.le_refl _, fun k _ => freeze_shape w _ _ k⟩⟩
  · have hj' : H.next ≤ j := hj
    cases e : (H.put b (some (.cells vs false))).get j with
    | none => rfl
    | some y =>
      rcases hsome j y e with ⟨rfl, _⟩ | ⟨_, k⟩
      · rw [h.bound _ hj'] at hg; cases hg
      · rw [h.bound _ hj'] at k; cases k
  · rcases hsome j y hy with ⟨rfl, rfl⟩ | ⟨hne, k⟩
    · exact ⟨_, hm, h1, fun i v hi => by rw [freeze_cell]; exact h2 i v hi, fun e => by cases e⟩
    · obtain ⟨q', hq', hor⟩ := h.dom j y k
      refine ⟨q', hq', ?_⟩
      rcases h.inj b j _ y _ q' hg rfl k (fun e => hne e.symm) hm hq' with g1 | ⟨_, _, _, vs', _, rfl, _⟩
      · exact hor.heap (freeze_heap w _ _ _ (fun e => g1 e.symm))
      · obtain ⟨o1, o2, _⟩ := hor
        exact ⟨o1, fun i v hi => by rw [freeze_cell]; exact o2 i v hi, fun e => by cases e⟩
  · rcases hsome j y hy with ⟨rfl, rfl⟩ | ⟨hjb, k⟩
    · cases ho
    · rcases hsome j' z hz with ⟨rfl, rfl⟩ | ⟨hjb', k'⟩
      · rcases h.inj j _ y _ q q' k ho hg hne hq hq' with g1 | ⟨_, _, _, _, _, e, _⟩
        · exact .inl g1
        · cases e
      · refine (h.inj j j' y z q q' k ho k' hne hq hq').imp_right (fun hs => ?_)
        unfold Sib at hs ⊢
        rw [hold, hkin, hkin]
        exact hs
  · rw [hold] at ho
    rcases hsome j y hy with ⟨rfl, rfl⟩ | ⟨_, k⟩
    · rfl
    · exact h.old j y k ho
  · rcases hsome j y e1 with ⟨rfl, rfl⟩ | ⟨_, k⟩
    · cases ho
    · exact ⟨j, y, q, k, ho, e2, e3⟩
  · rcases hsome j y e1 with ⟨rfl, rfl⟩ | ⟨_, k⟩
    · exact ⟨j, _, q, hg, e2, e3⟩
    · exact ⟨j, y, q, k, e2, e3⟩

def eString (tB uB : TypeId) : List AV → AH → Option (AV × AH)
  | [.ptr b 0], H => match H.get b with
    | some (.cells [_, sl] true) => if H.ty.get b = some (tB, some 2) then
        match sl with
        | .nils => some (.str [], H)
        | .slice b' 0 len none 1 => match H.get b' with
          | some (.cells vs true) => if len ≠ 0 ∧ len ≤ 140737488355328 ∧ H.ty.get b' = some (uB, none) then
              match (rd H b' 0 len).bind unbytes with
              | some s => some (.str s, H.put b' (some (.cells vs false)))
              | none => none
            else none
          | _ => none
        | _ => none
      else none
    | _ => none
  | _, _ => none
/-- How String goes. -/
structure StringW (P : Program) (uB : TypeId) (f : Nat) : Prop where
  nil : ∀ (b : Nat) (w : World), w.cell? ⟨b, 1, none⟩ = some (.slice none 0 0) → Calls P f #[.pointer (some ⟨b, 0, none⟩)] w fun e w' => e = .returned (.string ⟨#[]⟩) ∧ w' = w.drew
  some : ∀ (b g cap n : Nat) (l : List UInt8) (w : World), w.cell? ⟨b, 1, none⟩ = some (.slice (some ⟨g, 0, none⟩) l.length cap) → l ≠ [] → l.length ≤ cap → l.length ≤ n → l.length ≤ 140737488355328 → w.shape? g = some (uB, n) →
    (∀ j x, l[j]? = some x → w.cell? ⟨g, j, none⟩ = some (.int .u8 x.toNat)) →
    Calls P f #[.pointer (some ⟨b, 0, none⟩)] w fun e w' => e = .returned (.string ⟨l.toArray⟩) ∧ w' = w.drew.freeze ⟨g, 0, none⟩ l.length
theorem eString_next {tB uB : TypeId} {args : List AV} {v : AV} {H' : AH} (he : eString tB uB args H = some (v, H')) : H'.next = H.next := by
  unfold eString at he
  repeat' split at he
  all_goals first
    | (cases he; done)
    | (simp only [Option.some.injEq, Prod.mk.injEq] at he
       obtain ⟨_, rfl⟩ := he
       rfl)
theorem eString_does {tB uB : TypeId} {f : Nat} (hW : StringW P uB f) {b : Nat} {v : AV} {H' : AH} (h : R w0 L m H w) (he : eString tB uB [.ptr b 0] H = some (v, H')) {u : Value} (hu : VR m (.ptr b 0) u) :
    H'.next = H.next ∧ Calls P f #[u] w fun e w' => ∃ u' m', e = .returned u' ∧ Step m H w m' H' w' ∧ VR m' v u' ∧ R w0 L m' H' w' := by
  simp only [eString] at he
  split at he
  · rename_i ad sl hb
    split at he
    · rename_i ht
      obtain ⟨g, u0, u1, hm, hsh, c0, v0, c1, v1, f0, f1⟩ := h.builder hb ht
      have hu' : u = .pointer (some ⟨g, 0, none⟩) := by
        cases hu with
        | ptr _ _ g' o' n' hm' =>
          rw [hm] at hm'
          simp only [Option.some.injEq, Prod.mk.injEq] at hm'
          obtain ⟨rfl, rfl, rfl⟩ := hm'
          rfl
      subst hu'
      split at he
      · simp only [Option.some.injEq, Prod.mk.injEq] at he
        obtain ⟨rfl, rfl⟩ := he
        cases v1
        refine ⟨rfl, (hW.nil g w c1).mono ?_⟩
        rintro e w' ⟨rfl, rfl⟩
        exact ⟨_, m, rfl, Step.world (Below.refl _ _).drew, .str [], h.drew⟩
      · rename_i b2 len
        split at he
        · rename_i vs hb2
          split at he
          · rename_i hc
            obtain ⟨hc1, hc2, hc3⟩ := hc
            split at he
            · rename_i s hs
              simp only [Option.some.injEq, Prod.mk.injEq] at he
              obtain ⟨rfl, rfl⟩ := he
              refine ⟨rfl, ?_⟩
              cases hr : rd H b2 0 len with
              | none => rw [hr] at hs; cases hs
              | some l =>
                rw [hr] at hs
                simp only [Option.bind_some] at hs
                cases v1 with
                | slice _ _ _ _ _ g' o n a c g1 g2 g3 g4 =>
                  obtain ⟨q, y1, y2, y3, _⟩ := h.ty b2 _ hc3
                  rw [g1] at y1
                  simp only [Option.some.injEq] at y1
                  subst y1
                  simp only at y2 y3
                  subst y2
                  obtain ⟨us, e1, e2, e3⟩ := h.read hr g1
                  have e4 := unbytes_cells hs e2
                  subst e4
                  have hlen : s.length = len := by simpa using e1
                  subst hlen
                  obtain ⟨ha, hroom⟩ := g4 (by omega)
                  subst ha
                  refine (hW.some g g' c n s w (by simpa using c1) (by intro e; subst e; exact hc1 rfl) g2 (by omega) hc2 y3 (fun j x hx => ?_)).mono ?_
                  · have := e3 j (.int .u8 (x.toNat : Int)) (by rw [List.getElem?_map, hx]; rfl)
                    simpa using this
                  · rintro e w' ⟨rfl, rfl⟩
                    obtain ⟨k1, k2⟩ := h.drew.freeze hb2 g1 0 s.length
                    exact ⟨_, m, rfl, (Step.world (Below.refl _ _).drew).trans k2, .str s, k1⟩
            · cases he
          · cases he
        · cases he
      · cases he
    · cases he
  · cases he
end
end Go.Abs
end
section
/- The walks of a builder's methods in this seat. -/
namespace Go.Proofs.TryB
open Go Go.RowKit Go.Abs
set_option linter.unusedVariables false
theorem sizeB : (Try.prog.info? 65).map (·.size) = some 2 := by kernel_rfl
theorem liesB : liesAt Try.prog Try.prog.depth 65 (2 / Try.prog.cellsOf 65) 0 65 1 = true := by kernel_rfl
theorem cellsU : Try.prog.cellsOf 5 = 1 := by kernel_rfl
set_option maxHeartbeats 1000000 in
set_option maxRecDepth 100000 in
theorem cc_used (b : Nat) (w : World) (h0 : w.cell? ⟨b, 0, none⟩ = some (.pointer (some ⟨b, 0, none⟩))) :
    Calls Try.prog 79 #[.pointer (some ⟨b, 0, none⟩)] w fun e w' => e = .returned (.tuple #[]) ∧ w' = w := by
  obtain ⟨j, hj, _⟩ := Option.map_eq_some_iff.1 sizeB
  go_enter Try.func79, Try.ntmps79
  go_wp2
  rw [Lib.run_neq_ptr_same w _ Try.underlying62 hj]
  go_wp2
  go_end0
  exact ⟨rfl, rfl⟩
set_option maxHeartbeats 1000000 in
set_option maxRecDepth 100000 in
theorem cc_fresh (b : Nat) (w : World) (h0 : w.cell? ⟨b, 0, none⟩ = some (.pointer none)) (hsh : w.shape? b = some (65, 2)) (hfz : w.frozen? ⟨b, 0, none⟩ = false) :
    Calls Try.prog 79 #[.pointer (some ⟨b, 0, none⟩)] w fun e w' => e = .returned (.tuple #[]) ∧ w' = w.setCell ⟨b, 0, none⟩ (.pointer (some ⟨b, 0, none⟩)) := by
  obtain ⟨j, hj, hjs⟩ := Option.map_eq_some_iff.1 sizeB
  go_enter Try.func79, Try.ntmps79
  go_wp2
  rw [Lib.run_to_unsafe w ⟨b, 0, none⟩ Try.underlying62 Try.underlying142 hj (by rw [hjs]; decide) hsh (Nat.zero_lt_succ 1)]
  simp only [Result.andThen]
  rw [Oper.upon_value]
  go_wp2
  rw [run_callFunc_extern Try.func93 (by kernel_rfl) (by kernel_rfl) (by kernel_rfl) (e := Extern.AbiNoEscape.same) (by kernel_rfl)]
  rw [Lib.run_noEscape]
  simp only [Result.andThen]
  rw [Oper.upon_value]
  go_wp2
  rw [Lib.run_from_unsafe w ⟨b, 0, none⟩ Try.underlying142 Try.underlying62 hj hsh liesB]
  simp only [Result.andThen]
  rw [Oper.upon_value]
  go_wp2
  go_end0
  exact ⟨rfl, rfl⟩
theorem copyW : CopyW Try.prog 65 79 := ⟨cc_fresh, cc_used⟩
set_option maxHeartbeats 2000000 in
set_option maxRecDepth 100000 in
theorem writeW : WriteW Try.prog 50 79 63 9 := by
  intro g s w C Fin hcc hrun
  go_enter Try.func50, Try.ntmps50
  go_wp2_with (go_at_call 79; refine hcc.mono ?_)
  rintro e w1 ⟨rfl, h1⟩
  obtain ⟨x1, ao, n', cap, w2, dv, c1, hrun, d1, f1, fin⟩ := hrun w1 h1
  go_wp2_with (at_builtin; refine wpList_append_eq rfl _ _ 63 9 rfl _ _ rfl rfl (.slice ao n' cap) w2 hrun ?_)
  go_wp2
  go_ret2
  exact ⟨rfl, fin⟩
set_option maxHeartbeats 2000000 in
set_option maxRecDepth 100000 in
theorem str_nil (b : Nat) (w : World) (c1' : w.cell? ⟨b, 1, none⟩ = some (.slice none 0 0)) :
    Calls Try.prog 26 #[.pointer (some ⟨b, 0, none⟩)] w fun e w' => e = .returned (.string ⟨#[]⟩) ∧ w' = w.drew := by
  have hUS : ∀ (W : World) (q : Option Addr), (Builtin.unsafeString_ #[103, 3] 9 #[.pointer q, .int .i64 0]).run Try.prog W = .ok (.string .empty) W := fun W q => Lib.run_unsafeString_none W _ _ _ q
  have c1 : w.drew.cell? ⟨b, 1, none⟩ = some (.slice none 0 0) := c1'
  have hSD : (Builtin.unsafeSliceData_ #[63] 103 #[.slice none 0 0]).run Try.prog w.drew = .ok (.pointer none) w.drew := rfl
  go_enter Try.func26, Try.ntmps26
  go_wp2
  go_region
  all_goals (go_wp2; go_ret; exact ⟨rfl, rfl⟩)
set_option maxHeartbeats 2000000 in
set_option maxRecDepth 100000 in
theorem str_some (b g cap n : Nat) (l : List UInt8) (w : World) (c1' : w.cell? ⟨b, 1, none⟩ = some (.slice (some ⟨g, 0, none⟩) l.length cap)) (h0 : l ≠ []) (hcap : l.length ≤ cap) (hn : l.length ≤ n) (hlen : l.length ≤ 140737488355328)
    (hsh : w.shape? g = some (5, n)) (hcell : ∀ j x, l[j]? = some x → w.cell? ⟨g, j, none⟩ = some (.int .u8 x.toNat)) :
    Calls Try.prog 26 #[.pointer (some ⟨b, 0, none⟩)] w fun e w' => e = .returned (.string ⟨l.toArray⟩) ∧ w' = w.drew.freeze ⟨g, 0, none⟩ l.length := by
  have hl0 : l.length ≠ 0 := by simpa using h0
  have c1 : w.drew.cell? ⟨b, 1, none⟩ = some (.slice (some ⟨g, 0, none⟩) l.length cap) := c1'
  have hSD : (Builtin.unsafeSliceData_ #[63] 103 #[.slice (some ⟨g, 0, none⟩) l.length cap]).run Try.prog w.drew = .ok (.pointer (some ⟨g, 0, none⟩)) w.drew :=
    Lib.run_unsafeSliceData_row _ _ _ _ _ _ (by omega)
  have hUS : (Builtin.unsafeString_ #[103, 3] 9 #[.pointer (some ⟨g, 0, none⟩), .int .i64 l.length]).run Try.prog w.drew = .ok (.string ⟨l.toArray⟩) (w.drew.freeze ⟨g, 0, none⟩ l.length) := by
    refine Lib.run_unsafeString_row w.drew 103 3 9 5 Try.underlying103 cellsU g n hsh l h0 hn (by omega) ?_
    intro j x hx
    have := hcell j x hx
    have ea : (⟨g, 0, none⟩ : Addr).add j = ⟨g, j, none⟩ := by
      by_cases hj0 : j = 0
      · subst hj0; simp [Addr.add]
      · simp [Addr.add, hj0]
    rw [ea]
    exact this
  go_enter Try.func26, Try.ntmps26
  go_wp2
  go_region
  all_goals (go_wp2; go_ret; exact ⟨rfl, rfl⟩)
theorem stringW : StringW Try.prog 5 26 := ⟨str_nil, str_some⟩
end Go.Proofs.TryB
end
section
/- slices.Clone: what is not told apart here (nil, and a slice without elements) comes to one answer. -/
namespace Go.Vw
open Go Go.RowKit Go.Abs
section
variable {P : Program} {K : Knobs} {X : ExtV} {ext : Nat → Option (List AV → AH → Option (AV × AH))}

theorem readyC_seq {wm : TypeId → Bool} {quiet : Nat → Bool} {n : Nat} {a b : Code} {x y : CC} (h : readyC P wm quiet n (.seq a b) = some (.seq x y)) : readyC P wm quiet n a = some x ∧ readyC P wm quiet n b = some y := by
  simp only [readyC] at h
  split at h
  · rename_i x' y' hx hy
    simp only [Option.some.injEq, CC.seq.injEq] at h
    obtain ⟨rfl, rfl⟩ := h
    exact ⟨hx, hy⟩
  · cases h
theorem readyC_cond {wm : TypeId → Bool} {quiet : Nat → Bool} {n : Nat} {c : Operand} {a b : Code} {o : O} {x y : CC} (h : readyC P wm quiet n (.cond c a b) = some (.cond o x y)) : readyC P wm quiet n a = some x ∧ readyC P wm quiet n b = some y := by
  simp only [readyC] at h
  split at h
  · rename_i x' y' hx hy
    simp only [Option.some.injEq, CC.cond.injEq] at h
    obtain ⟨_, rfl, rfl⟩ := h
    exact ⟨hx, hy⟩
  · cases h

def c_cl (sz bytes : Nat) (z : List V) : CF :=
  (.mk 8
  (.seq (.r [(.s 2 (.mv false (.c (.vec true []))))])
  (.seq
  (.seq (.r [(.s 3 (.mv false (.t 0))), (.s 4 (.bo .eql 0 (.t 3) (.c (.vec true []))))]) (.cond (.t 4)
  (.seq (.r [(.s 2 (.mv false (.c (.vec true []))))]) .ret) .skip))
  (.seq (.r [(.s 5 (.bs false 0 sz z [])), (.s 6 (.mv false (.t 0))), (.s 7 (.ap false sz bytes (.t 5) (.t 6))), (.s 2 (.mv true (.t 7)))]) .ret))) [(.t 2)])
/-- Where the code of a Clone asks for nil. -/
def CloneFn (P : Program) (f : Nat) (t : TypeId) : Prop := ∃ fn k0 i1 A1 k2 k3 τ s af τ' u s' af' e, P.funcs[f]? = some fn ∧ fn.body = some (.seq k0 (.seq (.seq (.region i1 A1 false) (.cond (.tmp 4) k2 .skip)) k3)) ∧
  A1.toList = [⟨some 3, .move (.tmp 0), τ, s, af, none⟩, ⟨some 4, .binOp .eql t (.tmp 3) (.const (.slice none 0 0)) u, τ', s', af', none⟩] ∧ P.underlying t = some (.slice e) ∧ fn.results.toList = [.tmp 2]
def NoX : ExtV := fun _ _ _ _ _ _ => False
theorem clone_sim (hmix : P.follows .mixedOrders = true) (hK : ∀ f, K.inn f = true → ext f = none) {f t sz bytes : Nat} {z : List V} {q : Bool} (Hf : Has P K f q (c_cl sz bytes z)) (hc : CloneFn P f t)
    {fl : Nat} {σ : St} {o : Bool} {els : List (List V)} (he : els.all (fun e => decide (e.length = sz)) = true) (hn : els.length ≤ 140737488355328) (hb : els.length * bytes ≤ 140737488355328) : SimCall K (lim P ext) fl f [.vec o els] σ (.vec true els) σ := by
  obtain ⟨fn, k0, i1, A1, k2, k3, τ, s, af, τ', u, s', af', e, h1, h2, h3, h4, h5⟩ := hc
  have hrd := Hf.code
  unfold readyF at hrd
  rw [h1] at hrd
  simp only [h2] at hrd
  split at hrd
  · rename_i kk rr hkk hrr
    simp only [Option.some.injEq, c_cl, CF.mk.injEq] at hrd
    obtain ⟨hnt, rfl, rfl⟩ := hrd
    rw [hnt] at hkk
    obtain ⟨q0, q1⟩ := readyC_seq hkk
    obtain ⟨q1, q3⟩ := readyC_seq q1
    obtain ⟨_, q2⟩ := readyC_seq q1
    obtain ⟨q2, _⟩ := readyC_cond q2
    generalize hfl : (if q = true then max fl σ.size else fl) = fl'
    let ρ0 : VEnv := fun t => ([V.vec o els] : List V).getD t .undef
    let ρ1 : VEnv := fun t => if t = 0 then .vec o els else .undef
    let ρ2 : VEnv := fun t => if t = 2 then .vec true els else .undef
    have b0 : W P K NoX ⟨8, K.wm f, fl', true⟩ k0 ρ0 σ (fun ex ρ' σ' => ex = .normal ∧ ρ' 0 = .vec o els ∧ σ' = σ) := by
      refine goK_sound (.r [(.s 2 (.mv false (.c (.vec true []))))]) ?_ k0 q0
      have : goM P K NoX (K.wm f) 8 fl' true (fun ex ρ' σ' => ex = .normal ∧ ρ' 0 = .vec o els ∧ σ' = σ) (.r [(.s 2 (.mv false (.c (.vec true []))))]) [] ρ0 σ := by
        simp [ρ0]
      exact this
    have b2 : els = [] → W P K NoX ⟨8, K.wm f, fl', true⟩ k2 ρ1 σ (fun ex ρ' σ' => ex = .ret ∧ ρ' 2 = .vec true els ∧ σ' = σ) := by
      intro hz
      refine goK_sound _ ?_ k2 q2
      have : goM P K NoX (K.wm f) 8 fl' true (fun ex ρ' σ' => ex = .ret ∧ ρ' 2 = .vec true els ∧ σ' = σ) (.seq (.r [(.s 2 (.mv false (.c (.vec true []))))]) .ret) [] ρ1 σ := by
        simp [hz]
      exact this
    have b3 : W P K NoX ⟨8, K.wm f, fl', true⟩ k3 ρ1 σ (fun ex ρ' σ' => ex = .ret ∧ ρ' 2 = .vec true els ∧ σ' = σ) := by
      refine goK_sound _ ?_ k3 q3
      have : goM P K NoX (K.wm f) 8 fl' true (fun ex ρ' σ' => ex = .ret ∧ ρ' 2 = .vec true els ∧ σ' = σ) (.seq (.r [(.s 5 (.bs false 0 sz z [])), (.s 6 (.mv false (.t 0))), (.s 7 (.ap false sz bytes (.t 5) (.t 6))), (.s 2 (.mv true (.t 7)))]) .ret) [] ρ1 σ := by
        have he' : ∀ x ∈ els, x.length = sz := fun x hx => by simpa using List.all_eq_true.1 he x hx
        have hf : fits bytes (([] : List (List V)).length + els.length) := by
          unfold fits
          simp only [List.length_nil, Nat.zero_add]
          exact ⟨hn, hb⟩
        simp [ρ1]
        rw [if_pos he', appV_own hf rfl]
        simp
      exact this
    obtain ⟨ex0, ρ0', σ0', B0, rfl, r0, rfl⟩ := b0
    obtain ⟨ex3, ρ3', σ3', B3, rfl, r3, e3⟩ := b3
    have hsim : Sim P K ext (.code ⟨8, K.wm f, fl', true⟩ (.seq k0 (.seq (.seq (.region i1 A1 false) (.cond (.tmp 4) k2 .skip)) k3)) ρ0 σ0' .ret ρ2 σ0') := by
      intro g Pr H ρA hS hE
      refine V_seq (V_mono (sim hmix hK (X := NoX) (fun _ _ _ _ _ _ h => h.elim) B0 g Pr H ρA hS hE) (fun ex' ρA' H' ⟨hex, g1, hp, hE1⟩ => ?_))
      subst hex
      have ha := (hE1 0).1
      rw [r0] at ha
      obtain ⟨bb, hbb, hnil⟩ : ∃ bb : Bool, binA P .eql t (ρA' 0) .nils = some (.bool bb) ∧ (bb = true → els = []) := by
        generalize ρA' 0 = x at ha
        cases ha with
        | nils => exact ⟨true, by simp only [binA, eqNil, h4, eqRes], fun _ => rfl⟩
        | vec => exact ⟨false, by simp only [binA, eqNil, h4, eqRes], fun h => by cases h⟩
      have hE2 : ER g1 H' Pr ρ1 (upd (upd ρA' 3 (ρA' 0)) 4 (.bool bb)) := by
        intro t
        by_cases e0 : t = 0
        · subst e0
          show VA g1 (ρ1 0) (ρA' 0) ∧ OwnV g1 H' Pr (.tmp 0) (ρ1 0) (ρA' 0)
          have := hE1 0
          rw [r0] at this
          exact this
        · have : ρ1 t = .undef := if_neg e0
          rw [this]
          exact ⟨.undef _, OwnV.scalar (fun _ e => by cases e) rfl⟩
      have fin : ∀ {ρ' : VEnv} {g2 : Gh} {H2 : AH} {ρA2 : Env}, ρ' 2 = .vec true els → ER g2 H2 Pr ρ' ρA2 → ER g2 H2 Pr ρ2 ρA2 := by
        intro ρ' g2 H2 ρA2 hr hE' t
        by_cases e0 : t = 2
        · subst e0
          have := hE' 2
          rw [hr] at this
          exact this
        · have : ρ2 t = .undef := if_neg e0
          rw [this]
          exact ⟨.undef _, OwnV.scalar (fun _ e => by cases e) rfl⟩
      refine V_seq (V_seq (V_region (by rw [h3]; rfl) ?_))
      rw [h3]
      simp only [runE, evOpE, evalE, updD_some, upd_apply, if_true, evalO, ofConst, ofVal, holds_some]
      rw [hbb]
      simp only [Option.map_some, holds_some]
      refine V_cond (b := bb) rfl ?_
      cases bb with
      | true =>
        obtain ⟨ex2, ρ2', σ2', B2, rfl, r2, e2⟩ := b2 (hnil rfl)
        rw [e2] at B2
        exact V_mono (sim hmix hK (X := NoX) (fun _ _ _ _ _ _ h => h.elim) B2 g1 Pr H' _ hp.sr hE2) (fun ex' ρA2 H2 ⟨hex, g2, hp2, hE3⟩ => by
          subst hex
          exact ⟨rfl, g2, hp.trans hp2, fin r2 hE3⟩)
      | false =>
        rw [e3] at B3
        exact V_skip (V_mono (sim hmix hK (X := NoX) (fun _ _ _ _ _ _ h => h.elim) B3 g1 Pr H' _ hp.sr hE2) (fun ex' ρA2 H2 ⟨hex, g2, hp2, hE3⟩ => by
          subst hex
          exact ⟨rfl, g2, hp.trans hp2, fin r3 hE3⟩))
    have hres : allA (resV P σ0' ρ2) fn.results.toList = some [.vec true els] := by rw [h5]; rfl
    have key := sim_call (fl := fl) (args := [V.vec o els]) hK Hf.inn h1 h2 (by rw [hnt]; exact (Nat.le_of_ble_eq_true rfl : 1 ≤ 8)) (by rw [Hf.quiet, Hf.tl, hnt, hfl]; exact hsim) (.inr rfl) hres
    rw [h5] at key
    have hce : callEnd σ0'.size (retV [.tmp 2] [.vec true els]) σ0' = (.vec true els, σ0') := by
      have hv : retV [.tmp 2] [.vec true els] = .vec true els := rfl
      rw [hv]
      unfold callEnd
      split
      · rw [trim_self _ (Nat.le_max_left _ _)]
      · rfl
    rw [hce] at key
    exact key
  · cases hrd
end
end Go.Vw
end
section
/- Lexing by its definition, over lists of bytes. -/
namespace Lx
abbrev Str := List UInt8

structure Pos where
  line : Int
  col : Int
  deriving DecidableEq

def adv (p : Pos) (c : UInt8) : Pos := if c = 10 then ⟨p.line + 1, 1⟩ else ⟨p.line, p.col + 1⟩
def advs (p : Pos) (l : Str) : Pos := l.foldl adv p

/-- The kind of a sign; 0: none. -/
def sign (c : UInt8) : Nat := if c = 123 then 2 else if c = 125 then 3 else if c = 59 then 4 else if c = 91 then 5 else if c = 93 then 6 else 0

/-- Does a comment of the second kind begin here? -/
def begins : Str → Bool
  | a :: b :: _ => a == 47 && b == 42
  | _ => false

/-- Does a word end here? -/
def ends (l : Str) : Bool :=
  match l with
  | [] => true
  | c :: _ => c == 32 || c == 10 || c == 34 || c == 35 || sign c != 0 || begins l

/-- How many bytes stand ahead of a place where `q` holds (or the end). -/
def upto (q : Str → Bool) : Str → Nat
  | [] => 0
  | c :: t => if q (c :: t) then 0 else upto q t + 1

/-- Where "*/" begins. -/
def closeAt : Str → Option Nat
  | [] => none
  | a :: t => if a == 42 && t.head? == some 47 then some 0 else (closeAt t).map (· + 1)

inductive T1 where
  | skip (n : Nat)
  | tok (k : Nat) (text : Str) (n : Nat)
  | bad

def isNl (l : Str) : Bool := l.head? == some 10
def isQuoteOrNl (l : Str) : Bool := l.head? == some 34 || l.head? == some 10

/-- What stands first in a text that is not empty. -/
def tok1 (l : Str) : T1 :=
  match l with
  | [] => .skip 0
  | c :: t =>
    if c = 32 ∨ c = 10 then .skip 1
    else if c = 35 then .skip (upto isNl l)
    else if begins l then
      match closeAt (t.drop 1) with
      | none => .bad
      | some n => .skip (n + 4)
    else if c = 34 then
      (if t.drop (upto isQuoteOrNl t) |>.head? |> (· == some 34) then .tok 1 (t.take (upto isQuoteOrNl t)) (upto isQuoteOrNl t + 2) else .bad)
    else if sign c ≠ 0 then .tok (sign c) [c] 1
    else .tok 1 (l.take (upto ends l)) (upto ends l)

structure Tok where
  kind : Nat
  text : Str
  pos : Pos

inductive Res (α : Type) where
  | ok (a : α)
  | err (p : Pos) (e : Int)

/-- Tokens, with `n` rounds. -/
def toksN : Nat → Pos → Str → Option (Res (List Tok))
  | _, _, [] => some (.ok [])
  | 0, _, _ :: _ => none
  | n + 1, p, c :: t =>
    match tok1 (c :: t) with
    | .bad => some (.err p 71)
    | .skip k => toksN n (advs p ((c :: t).take k)) ((c :: t).drop k)
    | .tok kd tx k =>
      match toksN n (advs p ((c :: t).take k)) ((c :: t).drop k) with
      | some (.ok r) => some (.ok (⟨kd, tx, p⟩ :: r))
      | r => r

theorem upto_le (q : Str → Bool) (l : Str) : upto q l ≤ l.length := by
  induction l with
  | nil => simp [upto]
  | cons c t ih => simp only [upto]; split <;> simp <;> omega

theorem upto_pos {q : Str → Bool} {c : UInt8} {t : Str} (h : q (c :: t) = false) : 0 < upto q (c :: t) := by
  simp [upto, h]

theorem closeAt_le : ∀ {l : Str} {n : Nat}, closeAt l = some n → n + 2 ≤ l.length := by
  intro l
  induction l with
  | nil => intro n h; simp [closeAt] at h
  | cons a t ih =>
    intro n h
    simp only [closeAt] at h
    split at h
    · rename_i hc
      simp only [Option.some.injEq] at h
      subst h
      cases t with
      | nil => simp at hc
      | cons b t => simp
    · cases hn : closeAt t with
      | none => simp [hn] at h
      | some m => simp [hn] at h; have := ih hn; simp; omega

/-- What is taken is something, and no more than there is. -/
def T1.took : T1 → Nat
  | .skip n => n
  | .tok _ _ n => n
  | .bad => 1

theorem tok1_took (c : UInt8) (t : Str) : 0 < (tok1 (c :: t)).took ∧ (tok1 (c :: t)).took ≤ (c :: t).length := by
  simp only [tok1]
  split
  · simp [T1.took]
  · rename_i h1
    split
    · rename_i h2
      refine ⟨?_, upto_le _ _⟩
      simp only [T1.took]
      apply upto_pos
      simp [isNl]
      intro h; subst h; simp at h2
    · split
      · rename_i hb
        split
        · simp [T1.took]
        · rename_i n hn
          have := closeAt_le hn
          cases t with
          | nil => simp [begins] at hb
          | cons b t => simp [T1.took] at this ⊢; omega
      · rename_i hb
        split
        · split
          · rename_i hq
            simp only [T1.took]
            have h2 : upto isQuoteOrNl t < t.length := by
              rcases Nat.lt_or_ge (upto isQuoteOrNl t) t.length with h | h
              · exact h
              · rw [List.drop_eq_nil_of_le h] at hq; simp at hq
            simp; omega
          · simp [T1.took]
        · rename_i h34
          split
          · simp [T1.took]
          · rename_i hs
            refine ⟨?_, upto_le _ _⟩
            simp only [T1.took]
            apply upto_pos
            simp only [not_or] at h1
            simp_all [ends]

theorem toksN_some : ∀ (n : Nat) (p : Pos) (l : Str), l.length ≤ n → (toksN n p l).isSome
  | _, _, [], _ => by simp [toksN]
  | 0, _, _ :: _, h => by simp at h
  | n + 1, p, c :: t, h => by
    have hk := tok1_took c t
    rw [toksN]
    split
    · rfl
    · rename_i k he
      rw [he] at hk
      simp only [T1.took] at hk
      exact toksN_some n _ _ (by simp at h ⊢; omega)
    · rename_i kd tx k he
      rw [he] at hk
      simp only [T1.took] at hk
      have := toksN_some n (advs p ((c :: t).take k)) ((c :: t).drop k) (by simp at h ⊢; omega)
      cases hr : toksN n (advs p ((c :: t).take k)) ((c :: t).drop k) with
      | none => rw [hr] at this; simp at this
      | some r => cases r <;> rfl

theorem toksN_mono : ∀ (n m : Nat) (p : Pos) (l : Str), l.length ≤ n → n ≤ m → toksN m p l = toksN n p l
  | _, _, _, [], _, _ => by simp [toksN]
  | 0, _, _, _ :: _, h, _ => by simp at h
  | n + 1, 0, _, _ :: _, _, h => by omega
  | n + 1, m + 1, p, c :: t, h, hm => by
    have hk := tok1_took c t
    rw [toksN, toksN]
    cases he : tok1 (c :: t) with
    | bad => rfl
    | skip k =>
      rw [he] at hk
      simp only [T1.took] at hk
      exact toksN_mono n m _ _ (by simp at h ⊢; omega) (by omega)
    | tok kd tx k =>
      rw [he] at hk
      simp only [T1.took] at hk
      simp only
      rw [toksN_mono n m _ _ (by simp at h ⊢; omega) (by omega)]

/-- The tokens of a text that stands at p; or what is not closed. -/
def toks (p : Pos) (l : Str) : Res (List Tok) :=
  match toksN l.length p l with
  | some r => r
  | none => .err p 0

theorem toks_nil (p : Pos) : toks p [] = .ok [] := by simp [toks, toksN]

def Res.push (t : Tok) : Res (List Tok) → Res (List Tok)
  | .ok r => .ok (t :: r)
  | .err p e => .err p e

theorem toks_cons (p : Pos) (c : UInt8) (t : Str) : toks p (c :: t) =
    match tok1 (c :: t) with
    | .bad => .err p 71
    | .skip k => toks (advs p ((c :: t).take k)) ((c :: t).drop k)
    | .tok kd tx k => (toks (advs p ((c :: t).take k)) ((c :: t).drop k)).push ⟨kd, tx, p⟩ := by
  have hk := tok1_took c t
  have key : ∀ k, 0 < k → k ≤ (c :: t).length → toksN t.length (advs p ((c :: t).take k)) ((c :: t).drop k) = some (toks (advs p ((c :: t).take k)) ((c :: t).drop k)) := by
    intro k h1 h2
    have hs := toksN_some ((c :: t).drop k).length (advs p ((c :: t).take k)) ((c :: t).drop k) (Nat.le_refl _)
    rw [toksN_mono ((c :: t).drop k).length t.length _ _ (Nat.le_refl _) (by simp; omega)]
    unfold toks
    cases hr : toksN ((c :: t).drop k).length (advs p ((c :: t).take k)) ((c :: t).drop k) with
    | none => rw [hr] at hs; simp at hs
    | some r => rfl
  conv => lhs; unfold toks
  rw [List.length_cons, toksN]
  cases he : tok1 (c :: t) with
  | bad => rfl
  | skip k =>
    rw [he] at hk
    simp only
    rw [key k hk.1 hk.2]
  | tok kd tx k =>
    rw [he] at hk
    simp only
    rw [key k hk.1 hk.2]
    cases toks (advs p ((c :: t).take k)) ((c :: t).drop k) <;> rfl

/-- What may not stand: (place, error); OK is 0. -/
def checkL : Pos → Str → Pos × Int
  | _, [] => (⟨0, 0⟩, 0)
  | p, c :: t =>
    if p.line > 4096 then (p, 3)
    else if c = 10 then checkL ⟨p.line + 1, 1⟩ t
    else if c < 32 ∨ c > 126 then (p, 70)
    else checkL ⟨p.line, p.col + 1⟩ t

def check (l : Str) : Pos × Int := if l.length > 65536 then (⟨0, 0⟩, 3) else checkL ⟨1, 1⟩ l

/-- Tokens: P7.2. -/
def tokens (l : Str) : Res (List Tok) :=
  match check l with
  | (p, e) => if e = 0 then toks ⟨1, 1⟩ l else .err p e
end Lx
end
section
/- Statements of braces, by their definition. -/
namespace Tr
open Lx

inductive Node where
  | mk (words : List Str) (pos : List Pos) (block : Bool) (kids : List Node)

def Node.words : Node → List Str | .mk w _ _ _ => w
def Node.pos : Node → List Pos | .mk _ p _ _ => p
def Node.block : Node → Bool | .mk _ _ b _ => b
def Node.kids : Node → List Node | .mk _ _ _ k => k

inductive PR (α : Type) where
  | ok (a : α) (rest : List Tok)
  | err (p : Pos) (e : Int)

def plain (t : Tok) : Bool := t.kind == 1
def wordsOf (ts : List Tok) : List Tok := ts.takeWhile plain
def behind (ts : List Tok) : List Tok := ts.dropWhile plain
def leafOf (ws : List Tok) : Node := .mk (ws.map (·.text)) (ws.map (·.pos)) false []
def leaves (ws inner : List Tok) : List Node := inner.map fun t => leafOf (ws ++ [t])

mutual
/-- Statements up to the brace that closes them. -/
def pList : Nat → Nat → Pos → List Tok → Option (PR (List Node))
  | 0, _, _, _ => none
  | _ + 1, deep, op, [] => some (if deep > 0 then .err op 71 else .ok [] [])
  | n + 1, deep, op, t :: ts =>
    if t.kind = 3 then some (if deep > 0 then .ok [] ts else .err t.pos 130)
    else if t.kind = 1 then
      match pStmt n deep (t :: ts) with
      | some (.ok a r) =>
        match pList n deep op r with
        | some (.ok b r2) => some (.ok (a ++ b) r2)
        | x => x
      | x => x
    else some (.err t.pos 130)
/-- A statement, or the leaves of one with signs. -/
def pStmt : Nat → Nat → List Tok → Option (PR (List Node))
  | 0, _, _ => none
  | n + 1, deep, ts =>
    let first := (ts.head?.map (·.pos)).getD ⟨0, 0⟩
    match behind ts with
    | [] => some (.err first 71)
    | t :: r =>
      if t.kind = 5 then
        match behind r with
        | [] => some (.err first 71)
        | u :: r2 =>
          if u.kind = 6 ∧ wordsOf r ≠ [] then
            match r2 with
            | [] => some (.err first 71)
            | v :: r3 => if v.kind = 4 then some (.ok (leaves (wordsOf ts) (wordsOf r)) r3) else some (.err v.pos 130)
          else some (.err u.pos 130)
      else if t.kind = 4 then some (.ok [leafOf (wordsOf ts)] r)
      else if t.kind = 2 then
        if deep = 32 then some (.err t.pos 140)
        else
          match pList n (deep + 1) t.pos r with
          | some (.ok k r2) => some (.ok [.mk ((wordsOf ts).map (·.text)) ((wordsOf ts).map (·.pos)) true k] r2)
          | some (.err p e) => some (.err p e)
          | none => none
      else some (.err t.pos 130)
end

theorem dropWhile_le {α : Type} (q : α → Bool) (ts : List α) : (ts.dropWhile q).length ≤ ts.length := by
  induction ts with
  | nil => simp
  | cons a l ih => rw [List.dropWhile_cons]; split <;> simp <;> omega
theorem behind_le (ts : List Tok) : (behind ts).length ≤ ts.length := dropWhile_le _ _
theorem behind_lt {t : Tok} {ts : List Tok} (h : t.kind = 1) : (behind (t :: ts)).length ≤ ts.length := by
  unfold behind
  rw [List.dropWhile_cons_of_pos (by simp [plain, h])]
  exact dropWhile_le _ _

def PR.left {α : Type} : Option (PR α) → List Tok
  | some (.ok _ r) => r
  | _ => []

mutual
theorem pList_some : ∀ (n deep : Nat) (op : Pos) (ts : List Tok), 2 * ts.length + 1 ≤ n → (pList n deep op ts).isSome ∧ (PR.left (pList n deep op ts)).length ≤ ts.length
  | 0, _, _, _, h => by omega
  | n + 1, deep, op, [], _ => by
    rw [pList]; split <;> simp [PR.left]
  | n + 1, deep, op, t :: ts, h => by
    rw [pList]
    split
    · split <;> simp [PR.left]
    · split
      · rename_i h1
        have hs := pStmt_some n deep (t :: ts) (by simp at h ⊢; omega) (by simp [h1])
        cases hp : pStmt n deep (t :: ts) with
        | none => rw [hp] at hs; simp at hs
        | some x =>
          rw [hp] at hs
          cases x with
          | err p e => simp [PR.left]
          | ok a r =>
            have hl : r.length < (t :: ts).length := by simpa [PR.left] using hs.2
            have hr := pList_some n deep op r (by simp at h hl ⊢; omega)
            simp only
            cases hq : pList n deep op r with
            | none => rw [hq] at hr; simp at hr
            | some y =>
              rw [hq] at hr
              cases y with
              | err p e => simp [PR.left]
              | ok b r2 =>
                have : r2.length ≤ r.length := by simpa [PR.left] using hr.2
                simp [PR.left] at hl ⊢; omega
      · simp [PR.left]
theorem pStmt_some : ∀ (n deep : Nat) (ts : List Tok), 2 * ts.length ≤ n → (∃ t r, ts = t :: r ∧ t.kind = 1) → (pStmt n deep ts).isSome ∧ (PR.left (pStmt n deep ts)).length < ts.length
  | 0, _, ts, h, he => by obtain ⟨t, r, rfl, _⟩ := he; simp at h
  | n + 1, deep, ts, h, he => by
    obtain ⟨t0, r0, rfl, h0⟩ := he
    have hb := behind_lt (ts := r0) h0
    rw [pStmt]
    cases hbe : behind (t0 :: r0) with
    | nil => simp [PR.left]
    | cons t r =>
      rw [hbe] at hb
      simp only
      split
      · have hb2 := behind_le r
        cases hbr : behind r with
        | nil => simp [PR.left]
        | cons u r2 =>
          rw [hbr] at hb2
          simp only
          split
          · cases r2 with
            | nil => simp [PR.left]
            | cons v r3 => simp only; split <;> simp [PR.left] at hb hb2 ⊢; omega
          · simp [PR.left]
      · split
        · simp [PR.left] at hb ⊢; omega
        · split
          · split
            · simp [PR.left]
            · have hr := pList_some n (deep + 1) t.pos r (by simp at h hb ⊢; omega)
              cases hq : pList n (deep + 1) t.pos r with
              | none => rw [hq] at hr; simp at hr
              | some y =>
                rw [hq] at hr
                cases y with
                | err p e => simp [PR.left]
                | ok k r2 =>
                  have : r2.length ≤ r.length := by simpa [PR.left] using hr.2
                  simp [PR.left] at hb ⊢; omega
          · simp [PR.left]
end

/-- Parse: P14.1. -/
def parseToks (ts : List Tok) : Res (List Node) :=
  match pList (2 * ts.length + 1) 0 ⟨0, 0⟩ ts with
  | some (.ok a _) => .ok a
  | some (.err p e) => .err p e
  | none => .err ⟨0, 0⟩ 0

def parse (s : Str) : Res (List Node) :=
  match tokens s with
  | .ok ts => parseToks ts
  | .err p e => .err p e
end Tr
end
section
/- What is written is read back. -/
namespace Tr
open Lx

/-! ### Kinds and texts alone -/
abbrev KT := Nat × Str
def ktOf (t : Tok) : KT := (t.kind, t.text)
def kt : Res (List Tok) → Option (List KT)
  | .ok ts => some (ts.map ktOf)
  | .err _ _ => none

def lexKT (l : Str) : Option (List KT) := kt (toks ⟨1, 1⟩ l)

theorem kt_push (t : Tok) (r : Res (List Tok)) : kt (r.push t) = (kt r).map (ktOf t :: ·) := by
  cases r <;> simp [kt, Res.push]

theorem kt_any : ∀ (n : Nat) (l : Str), l.length ≤ n → ∀ p q, kt (toks p l) = kt (toks q l) := by
  intro n
  induction n with
  | zero =>
    intro l h p q
    have : l = [] := List.eq_nil_of_length_eq_zero (by omega)
    subst this; simp [toks_nil]
  | succ n ih =>
    intro l h p q
    cases l with
    | nil => simp [toks_nil]
    | cons c t =>
      have hk := tok1_took c t
      rw [toks_cons, toks_cons]
      cases he : tok1 (c :: t) with
      | bad => simp [kt]
      | skip k =>
        rw [he] at hk
        simp only [T1.took] at hk
        exact ih _ (by simp at h ⊢; omega) _ _
      | tok kd tx k =>
        rw [he] at hk
        simp only [T1.took] at hk
        simp only [kt_push]
        rw [ih ((c :: t).drop k) (by simp at h ⊢; omega) (advs p ((c :: t).take k)) (advs q ((c :: t).take k))]
        rfl

theorem kt_toks (p : Pos) (l : Str) : kt (toks p l) = lexKT l := kt_any l.length l (Nat.le_refl _) _ _

theorem lex_nil : lexKT [] = some [] := by simp [lexKT, toks_nil, kt]

theorem lex_cons (c : UInt8) (t : Str) : lexKT (c :: t) =
    match tok1 (c :: t) with
    | .bad => none
    | .skip k => lexKT ((c :: t).drop k)
    | .tok kd tx k => (lexKT ((c :: t).drop k)).map ((kd, tx) :: ·) := by
  unfold lexKT
  rw [toks_cons]
  cases he : tok1 (c :: t) with
  | bad => simp [kt]
  | skip k => exact kt_toks _ _
  | tok kd tx k =>
    simp only [kt_push]
    rw [kt_toks]
    rfl

theorem lex_blank (t : Str) : lexKT (32 :: t) = lexKT t := by rw [lex_cons]; simp [tok1]
theorem lex_nl (t : Str) : lexKT (10 :: t) = lexKT t := by rw [lex_cons]; simp [tok1]
theorem lex_blanks (n : Nat) (t : Str) : lexKT (List.replicate n 32 ++ t) = lexKT t := by
  induction n with
  | zero => rfl
  | succ n ih => rw [List.replicate_succ, List.cons_append, lex_blank, ih]
theorem lex_sign {c : UInt8} (h : sign c ≠ 0) (t : Str) : lexKT (c :: t) = (lexKT t).map ((sign c, [c]) :: ·) := by
  rw [lex_cons]
  have h1 : ¬ (c = 32 ∨ c = 10) := by
    rintro (rfl | rfl) <;> simp [sign] at h
  have h2 : ¬ c = 35 := by rintro rfl; simp [sign] at h
  have h3 : ¬ c = 34 := by rintro rfl; simp [sign] at h
  have h4 : begins (c :: t) = false := by
    cases t with
    | nil => rfl
    | cons b t =>
      have : c ≠ 47 := by rintro rfl; simp [sign] at h
      simp [begins, this]
  simp [tok1, h1, h2, h3, h4, h]

/-! ### A word as it is written -/
def isBad (c : UInt8) : Bool := c < 32 || c > 126 || c == 34
def isSpecial (c : UInt8) : Bool := c == 32 || c == 123 || c == 125 || c == 59 || c == 91 || c == 93 || c == 35
def hasComment : Str → Bool
  | [] => false
  | c :: t => begins (c :: t) || hasComment t

def quoted (w : Str) : Option Str :=
  if w.any isBad then none
  else if w.isEmpty || w.any isSpecial || hasComment w then some (34 :: w ++ [34])
  else some w

theorem ends_sep {c : UInt8} (h : c = 32 ∨ c = 59) (t : Str) : ends (c :: t) = true := by
  rcases h with rfl | rfl <;> simp [ends, sign]

/-- Inside a plain word no word ends. -/
theorem ends_in {c : UInt8} {t r : Str} {x : UInt8} (hx : x ≠ 42) (hb : isBad c = false) (hs : isSpecial c = false) (hc : hasComment (c :: t) = false) : ends (c :: t ++ x :: r) = false := by
  have hbeg : begins (c :: t ++ x :: r) = false := by
    cases t with
    | nil => simp [begins, hx]
    | cons b t =>
      simp only [hasComment, Bool.or_eq_false_iff] at hc
      simpa [begins] using hc.1
  simp only [List.cons_append] at hbeg ⊢
  simp only [ends, hbeg, Bool.or_false]
  simp only [isBad, isSpecial, Bool.or_eq_false_iff, beq_eq_false_iff_ne, decide_eq_false_iff_not] at hb hs
  obtain ⟨⟨h1, _⟩, h2⟩ := hb
  have h10 : c ≠ 10 := by rintro rfl; exact h1 (by decide)
  simp [sign, hs, h2, h10]

theorem upto_plain {x : UInt8} (hx : x = 32 ∨ x = 59) (r : Str) : ∀ (w : Str), w.any isBad = false → w.any isSpecial = false → hasComment w = false → upto ends (w ++ x :: r) = w.length := by
  intro w
  have hx42 : x ≠ 42 := by rcases hx with rfl | rfl <;> decide
  induction w with
  | nil => intro _ _ _; simp [upto, ends_sep hx]
  | cons c t ih =>
    intro h1 h2 h3
    simp only [List.any_cons, Bool.or_eq_false_iff] at h1 h2
    have he := ends_in (r := r) hx42 h1.1 h2.1 h3
    simp only [hasComment, Bool.or_eq_false_iff] at h3
    simp only [List.cons_append] at he ⊢
    simp only [upto, he, Bool.false_eq_true, if_false, List.length_cons]
    rw [ih h1.2 h2.2 h3.2]

theorem upto_quote (r : Str) : ∀ (w : Str), w.any isBad = false → upto isQuoteOrNl (w ++ 34 :: r) = w.length := by
  intro w
  induction w with
  | nil => intro _; simp [upto, isQuoteOrNl]
  | cons c t ih =>
    intro h
    simp only [List.any_cons, Bool.or_eq_false_iff] at h
    have h1 : isQuoteOrNl (c :: t ++ 34 :: r) = false := by
      simp only [isBad, Bool.or_eq_false_iff, beq_eq_false_iff_ne, decide_eq_false_iff_not] at h
      obtain ⟨⟨⟨h1, _⟩, h2⟩, _⟩ := h
      have h10 : c ≠ 10 := by rintro rfl; exact h1 (by decide)
      simp [isQuoteOrNl, h2, h10]
    simp only [List.cons_append] at h1 ⊢
    simp only [upto, h1, Bool.false_eq_true, if_false, List.length_cons]
    rw [ih h.2]

theorem lex_quoted {w q : Str} (h : quoted w = some q) {x : UInt8} (hx : x = 32 ∨ x = 59) (r : Str) : lexKT (q ++ x :: r) = (lexKT (x :: r)).map ((1, w) :: ·) := by
  unfold quoted at h
  split at h
  · cases h
  · rename_i hb
    have hb : w.any isBad = false := by simpa using hb
    split at h
    · simp only [Option.some.injEq] at h
      subst h
      have hu := upto_quote (x :: r) w hb
      have hq : tok1 (34 :: w ++ [34] ++ x :: r) = .tok 1 w (w.length + 2) := by
        simp only [List.cons_append, List.append_assoc, List.nil_append]
        simp [tok1, begins, hu]
        cases w <;> simp
      have := lex_cons 34 (w ++ [34] ++ x :: r)
      simp only [List.cons_append, List.append_assoc, List.nil_append] at hq this ⊢
      rw [this, hq]
      simp only
      congr 2
      simp [List.drop_append]
    · rename_i hq
      simp only [Option.some.injEq] at h
      subst h
      simp only [Bool.or_eq_true, not_or, Bool.not_eq_true] at hq
      obtain ⟨⟨hn, hs⟩, hc⟩ := hq
      cases w with
      | nil => simp at hn
      | cons c t =>
        have hu := upto_plain hx r (c :: t) hb hs hc
        have hx42 : x ≠ 42 := by rcases hx with rfl | rfl <;> decide
        simp only [List.any_cons, Bool.or_eq_false_iff] at hb hs
        have he := ends_in (r := r) hx42 hb.1 hs.1 hc
        have htk : tok1 (c :: t ++ x :: r) = .tok 1 (c :: t) (c :: t).length := by
          simp only [List.cons_append] at he hu ⊢
          simp only [ends, Bool.or_eq_false_iff, beq_eq_false_iff_ne, bne_eq_false_iff_eq] at he
          obtain ⟨⟨⟨⟨⟨e1, e2⟩, e3⟩, e4⟩, e5⟩, e6⟩ := he
          simp only [tok1, e1, e2, e3, e4, e5, e6, hu]
          simp
        simp only [List.cons_append] at htk ⊢
        rw [lex_cons, htk]
        simp

/-! ### Statements as they are written -/
def blanks (n : Nat) : Str := List.replicate n 32
def joinSp : List Str → Str
  | [] => []
  | [q] => q
  | q :: r => q ++ 32 :: joinSp r
def quotes : List Str → Option (List Str)
  | [] => some []
  | w :: r =>
    match quoted w, quotes r with
    | some q, some qs => some (q :: qs)
    | _, _ => none

mutual
def pr1 : Nat → Node → Option Str
  | d, .mk ws _ b ks =>
    if ws.isEmpty || (!b && !ks.isEmpty) || (b && decide (32 ≤ d)) then none
    else
      match quotes ws with
      | none => none
      | some qs =>
        if b then
          match prs (d + 1) ks with
          | none => none
          | some k => some (blanks (4 * d) ++ joinSp qs ++ [32, 123, 10] ++ k ++ blanks (4 * d) ++ [125, 10])
        else some (blanks (4 * d) ++ joinSp qs ++ [59, 10])
def prs : Nat → List Node → Option Str
  | _, [] => some []
  | d, n :: r =>
    match pr1 d n, prs d r with
    | some a, some b => some (a ++ b)
    | _, _ => none
end

mutual
def flat1 : Node → List KT
  | .mk ws _ b ks => ws.map (fun w => (1, w)) ++ if b then (2, [123]) :: (flats ks ++ [(3, [125])]) else [(4, [59])]
def flats : List Node → List KT
  | [] => []
  | n :: r => flat1 n ++ flats r
end

theorem map_cons_append {α : Type} (l : Option (List α)) (a : α) (b : List α) : (l.map (b ++ ·)).map (a :: ·) = l.map ((a :: b) ++ ·) := by
  cases l <;> simp

theorem lex_words : ∀ (ws : List Str) (qs : List Str), ws ≠ [] → quotes ws = some qs → ∀ (x : UInt8), (x = 32 ∨ x = 59) → ∀ r, lexKT (joinSp qs ++ x :: r) = (lexKT (x :: r)).map (ws.map (fun w => ((1 : Nat), w)) ++ ·)
  | [], _, h, _ => absurd rfl h
  | [w], qs, _, hq => by
    intro x hx r
    simp only [quotes] at hq
    cases hw : quoted w with
    | none => rw [hw] at hq; simp at hq
    | some q =>
      rw [hw] at hq
      simp only [Option.some.injEq] at hq
      subst hq
      simp only [joinSp]
      rw [lex_quoted hw hx r]
      rfl
  | w :: w2 :: ws, qs, _, hq => by
    intro x hx r
    simp only [quotes] at hq
    cases hw : quoted w with
    | none => rw [hw] at hq; simp at hq
    | some q =>
      rw [hw] at hq
      cases hr : quotes (w2 :: ws) with
      | none => simp only [quotes] at hr; rw [hr] at hq; simp at hq
      | some qs2 =>
        have ih := lex_words (w2 :: ws) qs2 (by simp) hr x hx r
        simp only [quotes] at hr
        rw [hr] at hq
        simp only [Option.some.injEq] at hq
        subst hq
        have hne : qs2 ≠ [] := by
          rintro rfl
          cases h2 : quoted w2 <;> simp [h2] at hr
          cases h3 : quotes ws <;> simp [h3] at hr
        have hj : joinSp (q :: qs2) = q ++ 32 :: joinSp qs2 := by
          cases qs2 with
          | nil => exact absurd rfl hne
          | cons a b => rfl
        rw [hj]
        have := lex_quoted hw (x := 32) (.inl rfl) (joinSp qs2 ++ x :: r)
        simp only [List.append_assoc, List.cons_append] at this ⊢
        rw [this, lex_blank, ih, map_cons_append]
        simp

mutual
theorem lex_pr1 : ∀ (n : Node) (d : Nat) (t : Str), pr1 d n = some t → ∀ r, lexKT (t ++ r) = (lexKT r).map (flat1 n ++ ·)
  | .mk ws ps b ks, d, t, h, r => by
    rw [pr1] at h
    split at h
    · cases h
    · rename_i hc
      simp only [Bool.or_eq_true, not_or, Bool.not_eq_true] at hc
      have hne : ws ≠ [] := by rintro rfl; simp at hc
      cases hq : quotes ws with
      | none => rw [hq] at h; cases h
      | some qs =>
        rw [hq] at h
        simp only at h
        split at h
        · rename_i hb
          cases hk : prs (d + 1) ks with
          | none => rw [hk] at h; cases h
          | some k =>
            rw [hk] at h
            simp only [Option.some.injEq] at h
            subst h
            simp only [List.append_assoc, blanks, lex_blanks]
            have := lex_words ws qs hne hq 32 (.inl rfl) (123 :: 10 :: (k ++ (List.replicate (4 * d) 32 ++ (125 :: 10 :: r))))
            simp only [List.cons_append, List.nil_append] at this ⊢
            rw [this, lex_blank, lex_sign (by decide), lex_nl, lex_prs ks (d + 1) k hk, lex_blanks, lex_sign (by decide), lex_nl]
            subst hb
            cases lexKT r <;> simp [flat1, sign]
        · rename_i hb
          have hb : b = false := by simpa using hb
          simp only [Option.some.injEq] at h
          subst h
          subst hb
          simp only [List.append_assoc, blanks, lex_blanks]
          have := lex_words ws qs hne hq 59 (.inr rfl) (10 :: r)
          simp only [List.cons_append, List.nil_append] at this ⊢
          rw [this, lex_sign (by decide), lex_nl]
          cases lexKT r <;> simp [flat1, sign]
theorem lex_prs : ∀ (l : List Node) (d : Nat) (t : Str), prs d l = some t → ∀ r, lexKT (t ++ r) = (lexKT r).map (flats l ++ ·)
  | [], d, t, h, r => by
    simp only [prs, Option.some.injEq] at h
    subst h
    cases hl : lexKT r <;> simp [flats, hl]
  | n :: l, d, t, h, r => by
    rw [prs] at h
    cases h1 : pr1 d n with
    | none => rw [h1] at h; simp at h
    | some a =>
      cases h2 : prs d l with
      | none => rw [h1, h2] at h; simp at h
      | some b =>
        rw [h1, h2] at h
        simp only [Option.some.injEq] at h
        subst h
        rw [List.append_assoc, lex_pr1 n d a h1, lex_prs l d b h2]
        cases lexKT r <;> simp [flats]
end
end Tr
end
section
/- Parsing without rounds; what was written parses back. -/
namespace Tr
open Lx

mutual
theorem pList_mono : ∀ (n m deep : Nat) (op : Pos) (ts : List Tok), 2 * ts.length + 1 ≤ n → n ≤ m → pList m deep op ts = pList n deep op ts
  | 0, _, _, _, _, h, _ => by omega
  | n + 1, 0, _, _, _, _, h => by omega
  | n + 1, m + 1, deep, op, [], _, _ => by rw [pList, pList]
  | n + 1, m + 1, deep, op, t :: ts, h, hm => by
    rw [pList, pList]
    split
    · rfl
    · split
      · rename_i h1
        have h' : 2 * (t :: ts).length ≤ n := by simp at h ⊢; omega
        rw [pStmt_mono n m deep (t :: ts) h' (by omega) ⟨t, ts, rfl, h1⟩]
        have hs := pStmt_some n deep (t :: ts) h' ⟨t, ts, rfl, h1⟩
        cases hp : pStmt n deep (t :: ts) with
        | none => rfl
        | some x =>
          cases x with
          | err p e => rfl
          | ok a r =>
            rw [hp] at hs
            have hl : r.length < (t :: ts).length := by simpa [PR.left] using hs.2
            simp only
            rw [pList_mono n m deep op r (by simp at hl h ⊢; omega) (by omega)]
      · rfl
theorem pStmt_mono : ∀ (n m deep : Nat) (ts : List Tok), 2 * ts.length ≤ n → n ≤ m → (∃ t r, ts = t :: r ∧ t.kind = 1) → pStmt m deep ts = pStmt n deep ts
  | 0, _, _, ts, h, _, he => by obtain ⟨t, r, rfl, _⟩ := he; simp at h
  | n + 1, 0, _, _, _, h, _ => by omega
  | n + 1, m + 1, deep, ts, h, hm, he => by
    obtain ⟨t0, r0, rfl, h0⟩ := he
    have hb := behind_lt (ts := r0) h0
    rw [pStmt, pStmt]
    cases hbe : behind (t0 :: r0) with
    | nil => rfl
    | cons t r =>
      rw [hbe] at hb
      simp only
      split
      · rfl
      · split
        · rfl
        · split
          · split
            · rfl
            · rw [pList_mono n m (deep + 1) t.pos r (by simp at h hb ⊢; omega) (by omega)]
          · rfl
end

def PR.get {α : Type} : Option (PR α) → PR α
  | some x => x
  | none => .err ⟨0, 0⟩ 0

/-- Statements up to the brace that closes them. -/
def pL (deep : Nat) (op : Pos) (ts : List Tok) : PR (List Node) := PR.get (pList (2 * ts.length + 1) deep op ts)
def pS (deep : Nat) (ts : List Tok) : PR (List Node) := PR.get (pStmt (2 * ts.length) deep ts)

theorem get_some {α : Type} {x : Option (PR α)} (h : x.isSome) : x = some (PR.get x) := by cases x <;> simp_all [PR.get]

theorem pList_eq (n deep : Nat) (op : Pos) (ts : List Tok) (h : 2 * ts.length + 1 ≤ n) : pList n deep op ts = some (pL deep op ts) := by
  rw [pList_mono (2 * ts.length + 1) n deep op ts (Nat.le_refl _) h]
  exact get_some (pList_some _ _ _ _ (Nat.le_refl _)).1
theorem pStmt_eq (n deep : Nat) (ts : List Tok) (h : 2 * ts.length ≤ n) (he : ∃ t r, ts = t :: r ∧ t.kind = 1) : pStmt n deep ts = some (pS deep ts) := by
  rw [pStmt_mono (2 * ts.length) n deep ts (Nat.le_refl _) h he]
  exact get_some (pStmt_some _ _ _ (Nat.le_refl _) he).1

theorem pL_left (deep : Nat) (op : Pos) (ts : List Tok) {a : List Node} {r : List Tok} (h : pL deep op ts = .ok a r) : r.length ≤ ts.length := by
  have := (pList_some (2 * ts.length + 1) deep op ts (Nat.le_refl _)).2
  rw [pList_eq _ _ _ _ (Nat.le_refl _), h] at this
  exact this
theorem pS_left (deep : Nat) (ts : List Tok) (he : ∃ t r, ts = t :: r ∧ t.kind = 1) {a : List Node} {r : List Tok} (h : pS deep ts = .ok a r) : r.length < ts.length := by
  have := (pStmt_some (2 * ts.length) deep ts (Nat.le_refl _) he).2
  rw [pStmt_eq _ _ _ (Nat.le_refl _) he, h] at this
  exact this

theorem pL_nil (deep : Nat) (op : Pos) : pL deep op [] = if deep > 0 then .err op 71 else .ok [] [] := by
  unfold pL; rw [pList]; rfl
theorem pL_cons (deep : Nat) (op : Pos) (t : Tok) (ts : List Tok) : pL deep op (t :: ts) =
    if t.kind = 3 then (if deep > 0 then .ok [] ts else .err t.pos 130)
    else if t.kind = 1 then
      match pS deep (t :: ts) with
      | .ok a r =>
        match pL deep op r with
        | .ok b r2 => .ok (a ++ b) r2
        | x => x
      | x => x
    else .err t.pos 130 := by
  conv => lhs; unfold pL
  rw [pList]
  split
  · rfl
  · split
    · rename_i h1
      have he : ∃ t' r, t :: ts = t' :: r ∧ t'.kind = 1 := ⟨t, ts, rfl, h1⟩
      rw [pStmt_eq _ _ _ (by simp) he]
      cases hp : pS deep (t :: ts) with
      | err p e => rfl
      | ok a r =>
        have := pS_left deep _ he hp
        simp only
        rw [pList_eq _ _ _ _ (by simp at this ⊢; omega)]
        cases pL deep op r <;> rfl
    · rfl
theorem pS_cons (deep : Nat) (t0 : Tok) (r0 : List Tok) (h0 : t0.kind = 1) : pS deep (t0 :: r0) =
    match behind (t0 :: r0) with
    | [] => .err t0.pos 71
    | t :: r =>
      if t.kind = 5 then
        match behind r with
        | [] => .err t0.pos 71
        | u :: r2 =>
          if u.kind = 6 ∧ wordsOf r ≠ [] then
            match r2 with
            | [] => .err t0.pos 71
            | v :: r3 => if v.kind = 4 then .ok (leaves (wordsOf (t0 :: r0)) (wordsOf r)) r3 else .err v.pos 130
          else .err u.pos 130
      else if t.kind = 4 then .ok [leafOf (wordsOf (t0 :: r0))] r
      else if t.kind = 2 then
        if deep = 32 then .err t.pos 140
        else
          match pL (deep + 1) t.pos r with
          | .ok k r2 => .ok [.mk ((wordsOf (t0 :: r0)).map (·.text)) ((wordsOf (t0 :: r0)).map (·.pos)) true k] r2
          | .err p e => .err p e
      else .err t.pos 130 := by
  have hb := behind_lt (ts := r0) h0
  conv => lhs; unfold pS
  rw [List.length_cons, Nat.mul_add, Nat.mul_one, pStmt]
  cases hbe : behind (t0 :: r0) with
  | nil => rfl
  | cons t r =>
    rw [hbe] at hb
    simp only
    split
    · cases behind r with
      | nil => rfl
      | cons u r2 =>
        simp only
        split
        · cases r2 with
          | nil => rfl
          | cons v r3 => simp only; split <;> rfl
        · rfl
    · split
      · rfl
      · split
        · split
          · rfl
          · rw [pList_eq _ _ _ _ (by simp at hb ⊢; omega)]
            cases pL (deep + 1) t.pos r <;> rfl
        · rfl

theorem parseToks_eq (ts : List Tok) : parseToks ts = match pL 0 ⟨0, 0⟩ ts with | .ok a _ => .ok a | .err p e => .err p e := by
  unfold parseToks
  rw [pList_eq _ _ _ _ (Nat.le_refl _)]
  cases pL 0 ⟨0, 0⟩ ts <;> rfl

/-! ### The same, places aside -/
mutual
def same1 : Node → Node → Bool
  | .mk ws _ b ks, .mk ws' _ b' ks' => b == b' && ws == ws' && sames ks ks'
def sames : List Node → List Node → Bool
  | [], [] => true
  | a :: l, b :: m => same1 a b && sames l m
  | _, _ => false
end

theorem sames_append : ∀ (a b c d : List Node), sames a c = true → sames b d = true → sames (a ++ b) (c ++ d) = true
  | [], b, [], d, _, h => h
  | [], _, _ :: _, _, h, _ => by simp [sames] at h
  | _ :: _, _, [], _, h, _ => by simp [sames] at h
  | x :: a, b, y :: c, d, h1, h2 => by
    simp only [sames, Bool.and_eq_true, List.cons_append] at h1 ⊢
    exact ⟨h1.1, sames_append a b c d h1.2 h2⟩

theorem span_words : ∀ (ws : List Str) (ts : List Tok) (k : Nat) (tx : Str) (more : List KT), k ≠ 1 → ts.map ktOf = ws.map (fun w => ((1 : Nat), w)) ++ (k, tx) :: more →
    ∃ t r, behind ts = t :: r ∧ t.kind = k ∧ r.map ktOf = more ∧ (wordsOf ts).map (·.text) = ws
  | [], [], _, _, _, _, h => by simp at h
  | [], t :: ts, k, tx, more, hk, h => by
    simp only [List.map_nil, List.nil_append, List.map_cons, List.cons.injEq] at h
    obtain ⟨h1, h2⟩ := h
    have hkd : t.kind = k := congrArg Prod.fst h1
    have hp : ¬ plain t = true := by simp [plain, hkd, hk]
    refine ⟨t, ts, ?_, hkd, h2, ?_⟩
    · exact List.dropWhile_cons_of_neg hp
    · unfold wordsOf; rw [List.takeWhile_cons_of_neg hp]; rfl
  | w :: ws, [], _, _, _, _, h => by simp at h
  | w :: ws, t :: ts, k, tx, more, hk, h => by
    simp only [List.map_cons, List.cons_append, List.cons.injEq] at h
    obtain ⟨h1, h2⟩ := h
    have hkd : t.kind = 1 := congrArg Prod.fst h1
    have htx : t.text = w := congrArg Prod.snd h1
    have hp : plain t = true := by simp [plain, hkd]
    obtain ⟨t', r, a, b, c, d⟩ := span_words ws ts k tx more hk h2
    refine ⟨t', r, ?_, b, c, ?_⟩
    · unfold behind at a ⊢; rw [List.dropWhile_cons_of_pos hp]; exact a
    · unfold wordsOf at d ⊢; rw [List.takeWhile_cons_of_pos hp]; simp [d, htx]

mutual
theorem pS_back : ∀ (x : Node) (deep : Nat) (s : Str) (ts : List Tok) (more : List KT), pr1 deep x = some s → ts.map ktOf = flat1 x ++ more →
    ∃ t0 r0, ts = t0 :: r0 ∧ t0.kind = 1 ∧ ∃ y r, pS deep ts = .ok [y] r ∧ same1 x y = true ∧ r.map ktOf = more
  | .mk ws ps b ks, deep, s, ts, more, h, he => by
    rw [pr1] at h
    split at h
    · cases h
    · rename_i hc
      simp only [Bool.or_eq_true, not_or, Bool.not_eq_true] at hc
      cases ws with
      | nil => simp at hc
      | cons w ws =>
        cases ts with
        | nil => simp [flat1] at he
        | cons t0 r0 =>
          have h0 : t0.kind = 1 := by
            simp only [flat1, List.map_cons, List.cons_append, List.cons.injEq] at he
            exact congrArg Prod.fst he.1
          refine ⟨t0, r0, rfl, h0, ?_⟩
          rw [pS_cons deep t0 r0 h0]
          cases b with
          | false =>
            simp only [flat1, Bool.false_eq_true, if_false, List.append_assoc, List.cons_append, List.nil_append] at he
            obtain ⟨t, r, hb, hk, hm, hw⟩ := span_words (w :: ws) (t0 :: r0) 4 [59] more (by decide) (by simpa using he)
            rw [hb]
            have hks : ks = [] := by
              have := hc.1.2
              simpa using this
            subst hks
            refine ⟨leafOf (wordsOf (t0 :: r0)), r, ?_, ?_, hm⟩
            · simp [hk]
            · simp [same1, leafOf, hw, sames]
          | true =>
            simp only [flat1, if_true, List.append_assoc, List.cons_append, List.nil_append] at he
            obtain ⟨t, r, hb, hk, hm, hw⟩ := span_words (w :: ws) (t0 :: r0) 2 [123] _ (by decide) (by simpa using he)
            rw [hb]
            have hd : ¬ 32 ≤ deep := by
              have := hc.2
              simpa using this
            cases hq : quotes (w :: ws) with
            | none => rw [hq] at h; cases h
            | some qs =>
              rw [hq] at h
              simp only [if_true] at h
              cases hk2 : prs (deep + 1) ks with
              | none => rw [hk2] at h; cases h
              | some k =>
                obtain ⟨y, r2, e1, e2, e3⟩ := pL_back ks (deep + 1) k t.pos r ((3, [125]) :: more) hk2 hm
                  (by
                    intro r3 h3
                    cases r3 with
                    | nil => simp at h3
                    | cons u r4 =>
                      simp only [List.map_cons, List.cons.injEq] at h3
                      have : u.kind = 3 := congrArg Prod.fst h3.1
                      rw [pL_cons, if_pos this, if_pos (by omega)]
                      exact ⟨_, rfl⟩)
                obtain ⟨r3, h3, e4⟩ := e3
                cases r3 with
                | nil => simp at h3
                | cons u r4 =>
                  simp only [List.map_cons, List.cons.injEq] at h3
                  have hu : u.kind = 3 := congrArg Prod.fst h3.1
                  rw [pL_cons, if_pos hu, if_pos (by omega)] at e4
                  injection e4 with _ e4
                  subst e4
                  refine ⟨.mk ((wordsOf (t0 :: r0)).map (·.text)) ((wordsOf (t0 :: r0)).map (·.pos)) true y, r4, ?_, ?_, h3.2⟩
                  · simp only [hk]
                    rw [if_neg (by decide), if_neg (by decide), if_pos trivial, if_neg (by omega), e1]
                  · simp [same1, hw, e2]
theorem pL_back : ∀ (l : List Node) (deep : Nat) (s : Str) (op : Pos) (ts : List Tok) (more : List KT), prs deep l = some s → ts.map ktOf = flats l ++ more →
    (∀ r, r.map ktOf = more → ∃ r2, pL deep op r = .ok [] r2) →
    ∃ y r2, pL deep op ts = .ok y r2 ∧ sames l y = true ∧ ∃ r, r.map ktOf = more ∧ pL deep op r = .ok [] r2
  | [], deep, s, op, ts, more, _, he, hend => by
    obtain ⟨r2, h2⟩ := hend ts (by simpa [flats] using he)
    exact ⟨[], r2, h2, by simp [sames], ts, by simpa [flats] using he, h2⟩
  | x :: l, deep, s, op, ts, more, h, he, hend => by
    rw [prs] at h
    cases h1 : pr1 deep x with
    | none => rw [h1] at h; simp at h
    | some a =>
      cases h2 : prs deep l with
      | none => rw [h1, h2] at h; simp at h
      | some b =>
        obtain ⟨t0, r0, rfl, h0, y, r, e1, e2, e3⟩ := pS_back x deep a ts (flats l ++ more) h1 (by simpa [flats] using he)
        obtain ⟨z, r2, f1, f2, f3⟩ := pL_back l deep b op r more h2 e3 hend
        refine ⟨y :: z, r2, ?_, ?_, f3⟩
        · rw [pL_cons, if_neg (by omega), if_pos h0, e1]
          simp only [f1]
          rfl
        · simp [sames, e2, f2]
end

/-- Tokens that are those of what was written parse back. -/
theorem parseToks_back {l : List Node} {s : Str} {ts : List Tok} (h : prs 0 l = some s) (he : ts.map ktOf = flats l) : ∃ y, parseToks ts = .ok y ∧ sames l y = true := by
  obtain ⟨y, r2, e1, e2, _⟩ := pL_back l 0 s ⟨0, 0⟩ ts [] h (by simpa using he) (by
    intro r hr
    have : r = [] := by simpa using hr
    subst this
    exact ⟨[], by rw [pL_nil]; rfl⟩)
  exact ⟨y, by rw [parseToks_eq, e1], e2⟩
end Tr
end
