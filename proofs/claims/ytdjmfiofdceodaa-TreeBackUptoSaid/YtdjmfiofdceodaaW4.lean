import Derived.Test.YtdjmfiofdceodaaW3
import Derived.Test.YtdjmfiofdceodaaProg
import Derived.KernelRfl
import Derived.Lib.Builder
import Derived.Lib.Walk
import Derived.Lib.UnsafeStr
import Derived.Lib.Strings
import Derived.WalkKit
import Derived.Laws.Externs
import Derived.Lib.Bytealg
import Derived.Lib.Index
import Derived.Lib.IndexAny
import Derived.Lib.IndexMore
import Derived.Lib.Repeat
import Derived.Lib.Join
set_option linter.unusedVariables false
set_option linter.unusedSimpArgs false
set_option linter.unusedSectionVars false
section
/- The code of the functions, made ready. -/
namespace Go.Vw.Wm
open Go Go.RowKit Go.Abs Go.Vw
set_option linter.unusedVariables false
def c_law14_TreeBack (x_law14_awake x_law14_good x_law14_nodes x_tree_Print x_tree_Parse x_tree_Same x_law14_wide x_law14_rows : Nat) : CF :=
  (.mk 99 
  (.seq (.r [(.s 6 (.mv false (.c (.bool false))))]) 
  (.seq 
  (.seq (.r [(.s 18 (.cl (.c (.func x_law14_awake [] [])) [])), (.s 19 (.uo .not (.t 18)))]) (.cond (.t 19) 
  (.seq (.r [(.s 6 (.mv false (.c (.bool false))))]) .ret) .skip)) 
  (.seq (.r [(.s 20 (.mv false (.t 0))), (.s 21 (.cl (.c (.func x_law14_good [] [])) [(.t 20)])), (.s 22 (.cl (.c (.func x_law14_nodes [] [])) [(.t 21), (.c (.int .i64 0))])), (.s 7 (.mv true (.t 22)))]) 
  (.seq (.r [(.s 24 (.mv false (.t 7))), (.s 25 (.cl (.c (.func x_tree_Print [] [])) [(.t 24)])), (.s 23 (.mv true (.t 25))), (.s 26 (.ex (.t 23) 0)), (.s 27 (.ex (.t 23) 1)), (.s 8 (.mv true (.t 26))), (.s 9 (.mv true (.t 27)))]) 
  (.seq 
  (.seq (.r [(.s 28 (.mv false (.t 9))), (.s 29 (.bo .eql 0 (.t 28) (.c (.int .i64 0)))), (.s 30 (.mv true (.t 29))), (.g 30 true 31 (.mv false (.t 8))), (.g 30 true 32 (.le false (.t 31))), (.g 30 true 33 (.bo .lss 0 (.t 32) (.c (.int .i64 60000)))), (.s 34 (.pk (.t 30) (.t 33) (.c (.bool false)))), (.s 35 (.mv true (.t 34))), (.g 35 true 36 (.mv false (.t 0))), (.g 35 true 37 (.le true (.t 36))), (.g 35 true 38 (.bo .lss 0 (.t 37) (.c (.int .i64 2000)))), (.s 39 (.pk (.t 35) (.t 38) (.c (.bool false))))]) (.cond (.t 39) 
  (.seq (.r [(.s 41 (.mv false (.t 8))), (.s 42 (.cl (.c (.func x_tree_Parse [] [])) [(.t 41)])), (.s 40 (.mv true (.t 42))), (.s 43 (.ex (.t 40) 0)), (.s 44 (.ex (.t 40) 1)), (.s 45 (.ex (.t 40) 2)), (.s 11 (.al [(.int .i64 0), (.int .i64 0)])), (.s 10 (.mv true (.t 43))), (.n (.st true 2 (.t 11) (.t 44))), (.s 12 (.mv true (.t 45)))]) 
  (.seq (.r [(.s 46 (.mv false (.t 12))), (.s 47 (.bo .neq 0 (.t 46) (.c (.int .i64 0)))), (.s 48 (.mv true (.t 47))), (.g 48 false 49 (.mv false (.t 7))), (.g 48 false 50 (.mv false (.t 10))), (.g 48 false 51 (.cl (.c (.func x_tree_Same [] [])) [(.t 49), (.t 50)])), (.g 48 false 52 (.uo .not (.t 51))), (.s 53 (.pk (.t 48) (.c (.bool true)) (.t 52)))]) (.cond (.t 53) 
  (.seq (.r [(.s 6 (.mv false (.c (.bool false))))]) .ret) .skip))) .skip)) 
  (.seq (.r [(.s 55 (.mv false (.t 1))), (.s 56 (.cl (.c (.func x_tree_Parse [] [])) [(.t 55)])), (.s 54 (.mv true (.t 56))), (.s 57 (.ex (.t 54) 0)), (.s 58 (.ex (.t 54) 1)), (.s 59 (.ex (.t 54) 2)), (.s 14 (.al [(.int .i64 0), (.int .i64 0)])), (.s 13 (.mv true (.t 57))), (.n (.st true 2 (.t 14) (.t 58))), (.s 9 (.mv true (.t 59)))]) 
  (.seq 
  (.seq (.r [(.s 60 (.mv false (.t 9))), (.s 61 (.bo .neq 0 (.t 60) (.c (.int .i64 0))))]) (.cond (.t 61) 
  (.seq (.r [(.s 62 (.mv false (.t 13))), (.s 63 (.le true (.t 62))), (.s 64 (.bo .eql 0 (.t 63) (.c (.int .i64 0)))), (.s 6 (.mv true (.t 64)))]) .ret) .skip)) 
  (.seq (.r [(.s 66 (.mv false (.t 13))), (.s 67 (.cl (.c (.func x_tree_Print [] [])) [(.t 66)])), (.s 65 (.mv true (.t 67))), (.s 68 (.ex (.t 65) 0)), (.s 69 (.ex (.t 65) 1)), (.s 8 (.mv true (.t 68))), (.s 15 (.mv true (.t 69)))]) 
  (.seq 
  (.seq (.r [(.s 70 (.mv false (.t 15))), (.s 71 (.bo .neq 0 (.t 70) (.c (.int .i64 0))))]) (.cond (.t 71) 
  (.seq (.r [(.s 6 (.mv false (.c (.bool false))))]) .ret) .skip)) 
  (.seq (.r [(.s 73 (.mv false (.t 2))), (.s 74 (.cl (.c (.func x_law14_wide [] [])) [(.t 73)])), (.s 75 (.bo .add 0 (.c (.str [32, 47, 42, 32, 120, 32, 42, 47, 32])) (.t 74))), (.s 76 (.mv false (.t 8))), (.s 77 (.bo .add 0 (.t 75) (.t 76))), (.s 78 (.bo .add 0 (.t 77) (.c (.str [35, 32, 121])))), (.s 79 (.cl (.c (.func x_tree_Parse [] [])) [(.t 78)])), (.s 72 (.mv true (.t 79))), (.s 80 (.ex (.t 72) 0)), (.s 81 (.ex (.t 72) 1)), (.s 82 (.ex (.t 72) 2)), (.s 17 (.al [(.int .i64 0), (.int .i64 0)])), (.s 16 (.mv true (.t 80))), (.n (.st true 2 (.t 17) (.t 81))), (.s 9 (.mv true (.t 82)))]) 
  (.seq 
  (.seq (.r [(.s 83 (.mv false (.t 8))), (.s 84 (.le false (.t 83))), (.s 85 (.bo .gtr 0 (.t 84) (.c (.int .i64 60000)))), (.s 86 (.mv true (.t 85))), (.g 86 false 87 (.mv false (.t 13))), (.g 86 false 88 (.cl (.c (.func x_law14_rows [] [])) [(.t 87), (.c (.int .i64 0))])), (.g 86 false 89 (.le true (.t 88))), (.g 86 false 90 (.bo .gtr 0 (.t 89) (.c (.int .i64 1500)))), (.s 91 (.pk (.t 86) (.c (.bool true)) (.t 90)))]) (.cond (.t 91) 
  (.seq (.r [(.s 6 (.mv false (.c (.bool true))))]) .ret) .skip)) 
  (.seq (.r [(.s 92 (.mv false (.t 9))), (.s 93 (.bo .eql 0 (.t 92) (.c (.int .i64 0)))), (.s 94 (.mv true (.t 93))), (.g 94 true 95 (.mv false (.t 13))), (.g 94 true 96 (.mv false (.t 16))), (.g 94 true 97 (.cl (.c (.func x_tree_Same [] [])) [(.t 95), (.t 96)])), (.s 98 (.pk (.t 94) (.t 97) (.c (.bool false)))), (.s 6 (.mv true (.t 98)))]) .ret)))))))))))) [(.t 6)])
def c_tree_Parse (x_lex_Tokens x_tree_reader_list : Nat) : CF :=
  (.mk 41 
  (.seq (.r [(.s 2 (.mv false (.c (.vec true [])))), (.s 3 (.al [(.int .i64 0), (.int .i64 0)])), (.s 4 (.mv false (.c (.int .i64 0))))]) 
  (.seq (.r [(.s 11 (.mv false (.t 0))), (.s 12 (.cl (.c (.func x_lex_Tokens [] [])) [(.t 11)])), (.s 10 (.mv true (.t 12))), (.s 13 (.ex (.t 10) 0)), (.s 14 (.ex (.t 10) 1)), (.s 15 (.ex (.t 10) 2)), (.s 6 (.al [(.int .i64 0), (.int .i64 0)])), (.s 5 (.mv true (.t 13))), (.n (.st true 2 (.t 6) (.t 14))), (.s 7 (.mv true (.t 15)))]) 
  (.seq 
  (.seq (.r [(.s 16 (.mv false (.t 7))), (.s 17 (.bo .neq 0 (.t 16) (.c (.int .i64 0))))]) (.cond (.t 17) 
  (.seq (.r [(.s 18 (.ld false (some 2) (.t 6))), (.s 19 (.mv false (.t 7))), (.s 2 (.mv false (.c (.vec true [])))), (.n (.st true 2 (.t 3) (.t 18))), (.s 4 (.mv true (.t 19)))]) .ret) .skip)) 
  (.seq (.r [(.s 20 (.mv false (.t 5))), (.s 21 (.bd true [(.vec true []), (.int .i64 0), (.int .i64 0), (.int .i64 0)] [(0, (1, (.t 20)))])), (.s 22 (.bx true (.t 21))), (.s 8 (.mv true (.t 22)))]) 
  (.seq (.r [(.s 23 (.mv false (.t 8))), (.s 24 (.bd true [(.int .i64 0), (.int .i64 0)] [])), (.s 25 (.cl (.c (.func x_tree_reader_list [] [])) [(.t 23), (.c (.int .i64 0)), (.t 24)])), (.s 9 (.mv true (.t 25)))]) 
  (.seq 
  (.seq (.r [(.s 26 (.mv false (.t 8))), (.s 27 (.nc (.t 26))), (.s 28 (.fa (.t 27) 1)), (.s 29 (.ld false none (.t 28))), (.s 30 (.bo .neq 0 (.t 29) (.c (.int .i64 0))))]) (.cond (.t 30) 
  (.seq (.a [(.s 31 (.mv false (.t 8))), (.s 32 (.nc (.t 31))), (.s 33 (.fa (.t 32) 2)), (.s 34 (.ld false (some 2) (.t 33))), (.s 35 (.mv false (.t 8))), (.s 36 (.nc (.t 35))), (.s 37 (.fa (.t 36) 1)), (.s 38 (.ld false none (.t 37))), (.s 2 (.mv false (.c (.vec true [])))), (.n (.st true 2 (.t 3) (.t 34))), (.s 4 (.mv true (.t 38)))] [(37, 3)]) .ret) .skip)) 
  (.seq (.r [(.s 39 (.mv false (.t 9))), (.s 40 (.bd true [(.int .i64 0), (.int .i64 0)] [])), (.s 2 (.mv true (.t 39))), (.n (.st true 2 (.t 3) (.t 40))), (.s 4 (.mv false (.c (.int .i64 0))))]) .ret))))))) [(.t 2), (.c 3 (some 2)), (.t 4)])
def c_tree_Print (x_tree_write x_strings_Builder_String tB uB : Nat) : CF :=
  (.mk 9 
  (.seq (.r [(.s 2 (.mv false (.c (.str [])))), (.s 3 (.mv false (.c (.int .i64 0))))]) 
  (.seq (.r [(.s 4 (.nb tB uB))]) 
  (.seq 
  (.seq (.r [(.s 5 (.mv false (.t 0))), (.s 6 (.cl (.c (.func x_tree_write [] [])) [(.t 4), (.t 5), (.c (.int .i64 0))])), (.s 7 (.uo .not (.t 6)))]) (.cond (.t 7) 
  (.seq (.r [(.s 2 (.mv false (.c (.str [])))), (.s 3 (.mv false (.c (.int .i64 1))))]) .ret) .skip)) 
  (.seq (.r [(.s 8 (.cl (.c (.func x_strings_Builder_String [] [])) [(.t 4)])), (.s 2 (.mv true (.t 8))), (.s 3 (.mv false (.c (.int .i64 0))))]) .ret)))) [(.t 2), (.t 3)])
def l_law14_rows_0 (x_law14_rows : Nat) : CC :=
  
  (.seq 
  (.seq (.r [(.s 9 (.mv false (.t 6))), (.s 10 (.mv false (.t 0))), (.s 11 (.le true (.t 10))), (.s 12 (.bo .lss 0 (.t 9) (.t 11)))]) (.cond (.t 12) .skip (.exit 0))) 
  (.seq (.block 1 
  (.seq (.r [(.s 15 (.mv true (.t 5))), (.s 16 (.mv false (.t 1))), (.s 17 (.bs false 0 1 [(.str [])] [])), (.s 18 (.mv false (.t 0))), (.s 19 (.mv false (.t 6))), (.s 20 (.ia 4 (.t 18) (.t 19))), (.s 21 (.fa (.t 20) 0)), (.s 22 (.ld false none (.t 21))), (.s 23 (.ap false 1 16 (.t 17) (.t 22))), (.s 24 (.bs false 0 2 [(.int .i64 0), (.int .i64 0)] [])), (.s 25 (.mv false (.t 0))), (.s 26 (.mv false (.t 6))), (.s 27 (.ia 4 (.t 25) (.t 26))), (.s 28 (.fa (.t 27) 1)), (.s 29 (.ld false none (.t 28))), (.s 30 (.ap false 2 16 (.t 24) (.t 29))), (.s 31 (.mv false (.t 0))), (.s 32 (.mv false (.t 6))), (.s 33 (.ia 4 (.t 31) (.t 32))), (.s 34 (.fa (.t 33) 2)), (.s 35 (.ld false none (.t 34))), (.s 36 (.bd true [(.int .i64 0), (.vec true []), (.vec true []), (.bool false)] [(0, (1, (.t 16))), (1, (1, (.t 23))), (2, (1, (.t 30))), (3, (1, (.t 35)))])), (.s 37 (.bs false 1 4 [(.int .i64 0), (.vec false []), (.vec false []), (.bool false)] [(0, (.t 36))])), (.s 38 (.ap false 4 64 (.t 15) (.t 37))), (.s 5 (.mv true (.t 38)))]) (.r [(.s 39 (.mv true (.t 5))), (.s 40 (.mv false (.t 0))), (.s 41 (.mv false (.t 6))), (.s 42 (.ia 4 (.t 40) (.t 41))), (.s 43 (.fa (.t 42) 3)), (.s 44 (.ld false none (.t 43))), (.s 45 (.mv false (.t 1))), (.s 46 (.bo .add 0 (.t 45) (.c (.int .i64 1)))), (.s 47 (.cl (.c (.func x_law14_rows [] [])) [(.t 44), (.t 46)])), (.s 48 (.ap false 4 64 (.t 39) (.t 47))), (.s 5 (.mv true (.t 48)))]))) (.r [(.s 13 (.mv false (.t 6))), (.s 14 (.bo .add 0 (.t 13) (.c (.int .i64 1)))), (.s 6 (.mv true (.t 14)))])))
def c_law14_rows (x_law14_rows : Nat) : CF :=
  (.mk 50 
  (.seq (.r [(.s 4 (.mv false (.c (.vec true []))))]) 
  (.seq (.r [(.s 5 (.mv false (.c (.vec true []))))]) 
  (.seq 
  (.seq (.r [(.s 7 (.mv false (.t 1))), (.s 8 (.bo .gtr 0 (.t 7) (.c (.int .i64 60))))]) (.cond (.t 8) 
  (.seq (.r [(.s 4 (.mv false (.c (.vec true []))))]) .ret) .skip)) 
  (.seq 
  (.seq (.r [(.s 6 (.mv false (.c (.int .i64 0))))]) (.block 0 (.loop (l_law14_rows_0 x_law14_rows)))) 
  (.seq (.r [(.s 49 (.mv false (.t 5))), (.s 4 (.mv true (.t 49)))]) .ret))))) [(.t 4)])
def l_law14_nodes_0 : CC :=
  
  (.seq 
  (.seq (.r [(.s 15 (.mv false (.t 7))), (.s 16 (.mv false (.t 0))), (.s 17 (.le true (.t 16))), (.s 18 (.bo .lss 0 (.t 15) (.t 17))), (.s 19 (.mv true (.t 18))), (.g 19 true 20 (.mv false (.t 0))), (.g 19 true 21 (.mv false (.t 7))), (.g 19 true 22 (.ia 4 (.t 20) (.t 21))), (.g 19 true 23 (.fa (.t 22) 0)), (.g 19 true 24 (.ld false none (.t 23))), (.g 19 true 25 (.mv false (.t 1))), (.g 19 true 26 (.bo .gtr 0 (.t 24) (.t 25))), (.s 27 (.pk (.t 19) (.t 26) (.c (.bool false))))]) (.cond (.t 27) .skip (.exit 2))) (.block 3 (.r [(.s 28 (.mv false (.t 7))), (.s 29 (.bo .add 0 (.t 28) (.c (.int .i64 1)))), (.s 7 (.mv true (.t 29)))])))
def l_law14_nodes_1 (x_law14_nodes : Nat) : CC :=
  
  (.seq 
  (.seq (.r [(.s 9 (.mv false (.t 6))), (.s 10 (.mv false (.t 0))), (.s 11 (.le true (.t 10))), (.s 12 (.bo .lss 0 (.t 9) (.t 11)))]) (.cond (.t 12) .skip (.exit 0))) (.block 1 
  (.seq (.r [(.s 13 (.mv false (.t 6))), (.s 14 (.bo .add 0 (.t 13) (.c (.int .i64 1)))), (.s 7 (.mv true (.t 14)))]) 
  (.seq (.block 2 (.loop l_law14_nodes_0)) 
  (.seq (.r [(.s 30 (.bs false 0 1 [(.str [])] [])), (.s 31 (.mv false (.t 0))), (.s 32 (.mv false (.t 6))), (.s 33 (.ia 4 (.t 31) (.t 32))), (.s 34 (.fa (.t 33) 1)), (.s 35 (.ld false none (.t 34))), (.s 36 (.ap false 1 16 (.t 30) (.t 35))), (.s 37 (.bs false 0 2 [(.int .i64 0), (.int .i64 0)] [])), (.s 38 (.mv false (.t 0))), (.s 39 (.mv false (.t 6))), (.s 40 (.ia 4 (.t 38) (.t 39))), (.s 41 (.fa (.t 40) 2)), (.s 42 (.ld false none (.t 41))), (.s 43 (.ap false 2 16 (.t 37) (.t 42))), (.s 44 (.mv false (.t 0))), (.s 45 (.mv false (.t 6))), (.s 46 (.ia 4 (.t 44) (.t 45))), (.s 47 (.fa (.t 46) 3)), (.s 48 (.ld false none (.t 47))), (.s 49 (.bd true [(.vec true []), (.vec true []), (.bool false), (.vec true [])] [(0, (1, (.t 36))), (1, (1, (.t 43))), (2, (1, (.t 48)))])), (.s 8 (.al [(.vec true []), (.vec true []), (.bool false), (.vec true [])])), (.n (.st true 4 (.t 8) (.t 49)))]) 
  (.seq 
  (.seq (.r [(.s 50 (.mv false (.t 0))), (.s 51 (.mv false (.t 6))), (.s 52 (.ia 4 (.t 50) (.t 51))), (.s 53 (.fa (.t 52) 3)), (.s 54 (.ld false none (.t 53)))]) (.cond (.t 54) (.r [(.s 55 (.mv false (.t 0))), (.s 56 (.mv false (.t 6))), (.s 57 (.bo .add 0 (.t 56) (.c (.int .i64 1)))), (.s 58 (.mv false (.t 7))), (.s 59 (.sV 4 (.t 55) (some (.t 57)) (some (.t 58)))), (.s 60 (.mv false (.t 1))), (.s 61 (.bo .add 0 (.t 60) (.c (.int .i64 1)))), (.s 62 (.cl (.c (.func x_law14_nodes [] [])) [(.t 59), (.t 61)])), (.s 63 (.fa (.t 8) 3)), (.n (.st true 1 (.t 63) (.t 62)))]) .skip)) 
  (.seq (.r [(.s 64 (.mv true (.t 5))), (.s 65 (.ld false (some 4) (.t 8))), (.s 66 (.bs false 1 4 [(.vec false []), (.vec false []), (.bool false), (.vec false [])] [(0, (.t 65))])), (.s 67 (.ap false 4 80 (.t 64) (.t 66))), (.s 5 (.mv true (.t 67)))]) (.r [(.s 68 (.mv false (.t 7))), (.s 6 (.mv true (.t 68)))]))))))))
def c_law14_nodes (x_law14_nodes : Nat) : CF :=
  (.mk 70 
  (.seq (.r [(.s 4 (.mv false (.c (.vec true []))))]) 
  (.seq (.r [(.s 5 (.mv false (.c (.vec true []))))]) 
  (.seq (.r [(.s 6 (.mv false (.c (.int .i64 0))))]) 
  (.seq (.block 0 (.loop (l_law14_nodes_1 x_law14_nodes))) 
  (.seq (.r [(.s 69 (.mv false (.t 5))), (.s 4 (.mv true (.t 69)))]) .ret))))) [(.t 4)])
def l_law14_good_0 : CC :=
  
  (.seq 
  (.seq (.r [(.s 39 (.mv false (.t 7))), (.s 40 (.fa (.t 6) 1)), (.s 41 (.ld false none (.t 40))), (.s 42 (.le true (.t 41))), (.s 43 (.bo .lss 0 (.t 39) (.t 42)))]) (.cond (.t 43) .skip (.exit 2))) 
  (.seq (.block 3 (.r [(.s 46 (.fa (.t 6) 2)), (.s 47 (.ld true none (.t 46))), (.s 48 (.mv false (.t 5))), (.s 49 (.bo .add 0 (.t 48) (.c (.int .i64 1)))), (.s 50 (.mv false (.t 7))), (.s 51 (.bo .add 0 (.t 50) (.c (.int .i64 1)))), (.s 52 (.bd true [(.int .i64 0), (.int .i64 0)] [(0, (1, (.t 49))), (1, (1, (.t 51)))])), (.s 53 (.bs false 1 2 [(.int .i64 0), (.int .i64 0)] [(0, (.t 52))])), (.s 54 (.ap false 2 16 (.t 47) (.t 53))), (.s 55 (.fa (.t 6) 2)), (.n (.st true 1 (.t 55) (.t 54)))])) (.r [(.s 44 (.mv false (.t 7))), (.s 45 (.bo .add 0 (.t 44) (.c (.int .i64 1)))), (.s 7 (.mv true (.t 45)))])))
def l_law14_good_1 : CC :=
  
  (.seq 
  (.seq (.r [(.s 8 (.mv false (.t 5))), (.s 9 (.mv false (.t 0))), (.s 10 (.le true (.t 9))), (.s 11 (.bo .lss 0 (.t 8) (.t 10))), (.s 12 (.mv true (.t 11))), (.g 12 true 13 (.mv false (.t 5))), (.g 12 true 14 (.bo .lss 0 (.t 13) (.c (.int .i64 120)))), (.s 15 (.pk (.t 12) (.t 14) (.c (.bool false))))]) (.cond (.t 15) .skip (.exit 0))) 
  (.seq (.block 1 
  (.seq (.r [(.s 18 (.mv false (.t 0))), (.s 19 (.mv false (.t 5))), (.s 20 (.ia 4 (.t 18) (.t 19))), (.s 21 (.ld false (some 4) (.t 20))), (.s 6 (.al [(.int .i64 0), (.vec true []), (.vec true []), (.bool false)])), (.n (.st true 4 (.t 6) (.t 21)))]) 
  (.seq 
  (.seq (.r [(.s 22 (.fa (.t 6) 1)), (.s 23 (.ld false none (.t 22))), (.s 24 (.le true (.t 23))), (.s 25 (.bo .eql 0 (.t 24) (.c (.int .i64 0)))), (.s 26 (.mv true (.t 25))), (.g 26 false 27 (.fa (.t 6) 1)), (.g 26 false 28 (.ld false none (.t 27))), (.g 26 false 29 (.le true (.t 28))), (.g 26 false 30 (.bo .gtr 0 (.t 29) (.c (.int .i64 8)))), (.s 31 (.pk (.t 26) (.c (.bool true)) (.t 30)))]) (.cond (.t 31) (.exit 1) .skip)) 
  (.seq (.r [(.s 32 (.fa (.t 6) 0)), (.s 33 (.ld false none (.t 32))), (.s 34 (.mx (.t 33) (.c (.int .i64 0)))), (.s 35 (.mv false (.t 4))), (.s 36 (.mn (.t 34) (.t 35))), (.s 37 (.fa (.t 6) 0)), (.n (.st true 1 (.t 37) (.t 36)))]) 
  (.seq (.r [(.s 38 (.fa (.t 6) 2)), (.n (.st false 1 (.t 38) (.c (.vec true []))))]) 
  (.seq 
  (.seq (.r [(.s 7 (.mv false (.c (.int .i64 0))))]) (.block 2 (.loop l_law14_good_0))) 
  (.seq (.r [(.s 56 (.mv true (.t 3))), (.s 57 (.ld false (some 4) (.t 6))), (.s 58 (.bs false 1 4 [(.int .i64 0), (.vec false []), (.vec false []), (.bool false)] [(0, (.t 57))])), (.s 59 (.ap false 4 64 (.t 56) (.t 58))), (.s 3 (.mv true (.t 59)))]) 
  (.seq (.r [(.s 60 (.fa (.t 6) 0)), (.s 61 (.ld false none (.t 60))), (.s 4 (.mv true (.t 61)))]) 
  (.seq (.r [(.s 62 (.fa (.t 6) 3)), (.s 63 (.ld false none (.t 62))), (.s 64 (.mv true (.t 63))), (.g 64 true 65 (.mv false (.t 4))), (.g 64 true 66 (.bo .lss 0 (.t 65) (.c (.int .i64 30)))), (.s 67 (.pk (.t 64) (.t 66) (.c (.bool false))))]) (.cond (.t 67) (.r [(.s 68 (.mv false (.t 4))), (.s 69 (.bo .add 0 (.t 68) (.c (.int .i64 1)))), (.s 4 (.mv true (.t 69)))]) .skip)))))))))) (.r [(.s 16 (.mv false (.t 5))), (.s 17 (.bo .add 0 (.t 16) (.c (.int .i64 1)))), (.s 5 (.mv true (.t 17)))])))
def c_law14_good : CF :=
  (.mk 71 
  (.seq (.r [(.s 2 (.mv false (.c (.vec true []))))]) 
  (.seq (.r [(.s 3 (.mv false (.c (.vec true []))))]) 
  (.seq (.r [(.s 4 (.mv false (.c (.int .i64 0))))]) 
  (.seq 
  (.seq (.r [(.s 5 (.mv false (.c (.int .i64 0))))]) (.block 0 (.loop l_law14_good_1))) 
  (.seq (.r [(.s 70 (.mv false (.t 3))), (.s 2 (.mv true (.t 70)))]) .ret))))) [(.t 2)])
def c_tree_Same (x_slices_EqualFunc_tree_Node x_tree_Same_1 : Nat) : CF :=
  (.mk 8 
  (.seq (.r [(.s 4 (.mv false (.c (.bool false))))]) 
  (.seq (.r [(.s 5 (.mv false (.t 0))), (.s 6 (.mv false (.t 1))), (.s 7 (.cl (.c (.func x_slices_EqualFunc_tree_Node [] [])) [(.t 5), (.t 6), (.c (.func x_tree_Same_1 [] []))])), (.s 4 (.mv true (.t 7)))]) .ret)) [(.t 4)])
def l_law14_wide_0 : CC :=
  
  (.seq 
  (.seq (.r [(.s 5 (.mv false (.t 4))), (.s 6 (.mv false (.t 0))), (.s 7 (.le false (.t 6))), (.s 8 (.bo .lss 0 (.t 5) (.t 7))), (.s 9 (.mv true (.t 8))), (.g 9 true 10 (.mv false (.t 4))), (.g 9 true 11 (.bo .lss 0 (.t 10) (.c (.int .i64 40)))), (.s 12 (.pk (.t 9) (.t 11) (.c (.bool false))))]) (.cond (.t 12) .skip (.exit 0))) 
  (.seq (.block 1 
  (.seq (.r [(.s 15 (.mv false (.t 0))), (.s 16 (.mv false (.t 4))), (.s 17 (.iS (.t 15) (.t 16))), (.s 18 (.bo .rem 0 (.t 17) (.c (.int .u8 3)))), (.s 19 (.bo .eql 0 (.t 18) (.c (.int .u8 0))))]) (.cond (.t 19) (.r [(.s 20 (.mv false (.t 3))), (.s 21 (.bo .add 0 (.t 20) (.c (.str [10])))), (.s 3 (.mv true (.t 21)))]) (.r [(.s 22 (.mv false (.t 3))), (.s 23 (.bo .add 0 (.t 22) (.c (.str [32])))), (.s 3 (.mv true (.t 23)))])))) (.r [(.s 13 (.mv false (.t 4))), (.s 14 (.bo .add 0 (.t 13) (.c (.int .i64 1)))), (.s 4 (.mv true (.t 14)))])))
def c_law14_wide : CF :=
  (.mk 25 
  (.seq (.r [(.s 2 (.mv false (.c (.str []))))]) 
  (.seq (.r [(.s 3 (.mv false (.c (.str []))))]) 
  (.seq 
  (.seq (.r [(.s 4 (.mv false (.c (.int .i64 0))))]) (.block 0 (.loop l_law14_wide_0))) 
  (.seq (.r [(.s 24 (.mv false (.t 3))), (.s 2 (.mv true (.t 24)))]) .ret)))) [(.t 2)])
def l_lex_Tokens_0 (x_lex_reader_token : Nat) : CC :=
  
  (.seq 
  (.seq (.r [(.s 25 (.mv false (.t 8))), (.s 26 (.nc (.t 25))), (.s 27 (.fa (.t 26) 0)), (.s 28 (.ld false none (.t 27))), (.s 29 (.bo .neq 0 (.t 28) (.c (.str []))))]) (.cond (.t 29) .skip (.exit 0))) (.block 1 
  (.seq (.r [(.s 31 (.mv false (.t 8))), (.s 32 (.cl (.c (.func x_lex_reader_token [] [])) [(.t 31)])), (.s 30 (.mv true (.t 32))), (.s 33 (.ex (.t 30) 0)), (.s 34 (.ex (.t 30) 1)), (.s 35 (.ex (.t 30) 2)), (.s 9 (.al [(.int .u8 0), (.str []), (.int .i64 0), (.int .i64 0)])), (.n (.st true 4 (.t 9) (.t 33))), (.s 10 (.mv true (.t 34))), (.s 11 (.mv true (.t 35)))]) 
  (.seq 
  (.seq (.r [(.s 36 (.mv false (.t 11))), (.s 37 (.bo .neq 0 (.t 36) (.c (.int .i64 0))))]) (.cond (.t 37) 
  (.seq (.r [(.s 38 (.fa (.t 9) 2)), (.s 39 (.ld false (some 2) (.t 38))), (.s 40 (.mv false (.t 11))), (.s 2 (.mv false (.c (.vec true [])))), (.n (.st true 2 (.t 3) (.t 39))), (.s 4 (.mv true (.t 40)))]) .ret) .skip)) 
  (.seq (.r [(.s 41 (.mv false (.t 10)))]) (.cond (.t 41) (.r [(.s 42 (.mv true (.t 7))), (.s 43 (.ld false (some 4) (.t 9))), (.s 44 (.bs false 1 4 [(.int .u8 0), (.str []), (.int .i64 0), (.int .i64 0)] [(0, (.t 43))])), (.s 45 (.ap false 4 40 (.t 42) (.t 44))), (.s 7 (.mv true (.t 45)))]) .skip))))))
def c_lex_Tokens (x_lex_check x_lex_reader_token : Nat) : CF :=
  (.mk 48 
  (.seq (.r [(.s 2 (.mv false (.c (.vec true [])))), (.s 3 (.al [(.int .i64 0), (.int .i64 0)])), (.s 4 (.mv false (.c (.int .i64 0))))]) 
  (.seq 
  (.seq (.r [(.s 13 (.mv false (.t 0))), (.s 14 (.cl (.c (.func x_lex_check [] [])) [(.t 13)])), (.s 12 (.mv true (.t 14))), (.s 15 (.ex (.t 12) 0)), (.s 16 (.ex (.t 12) 1)), (.s 5 (.al [(.int .i64 0), (.int .i64 0)])), (.n (.st true 2 (.t 5) (.t 15))), (.s 6 (.mv true (.t 16)))]) 
  (.seq (.r [(.s 17 (.mv false (.t 6))), (.s 18 (.bo .neq 0 (.t 17) (.c (.int .i64 0))))]) (.cond (.t 18) 
  (.seq (.r [(.s 19 (.ld false (some 2) (.t 5))), (.s 20 (.mv false (.t 6))), (.s 2 (.mv false (.c (.vec true [])))), (.n (.st true 2 (.t 3) (.t 19))), (.s 4 (.mv true (.t 20)))]) .ret) .skip))) 
  (.seq (.r [(.s 7 (.mv false (.c (.vec true []))))]) 
  (.seq (.r [(.s 21 (.mv false (.t 0))), (.s 22 (.bd true [(.int .i64 0), (.int .i64 0)] [(0, (1, (.c (.int .i64 1)))), (1, (1, (.c (.int .i64 1))))])), (.s 23 (.bd true [(.str []), (.int .i64 0), (.int .i64 0)] [(0, (1, (.t 21))), (1, (2, (.t 22)))])), (.s 24 (.bx true (.t 23))), (.s 8 (.mv true (.t 24)))]) 
  (.seq (.block 0 (.loop (l_lex_Tokens_0 x_lex_reader_token))) 
  (.seq (.r [(.s 46 (.mv false (.t 7))), (.s 47 (.bd true [(.int .i64 0), (.int .i64 0)] [])), (.s 2 (.mv true (.t 46))), (.n (.st true 2 (.t 3) (.t 47))), (.s 4 (.mv false (.c (.int .i64 0))))]) .ret)))))) [(.t 2), (.c 3 (some 2)), (.t 4)])
def l_tree_reader_list_0 (x_tree_reader_next x_tree_reader_fail x_tree_reader_off x_tree_reader_statement : Nat) : CC :=
  
  (.seq 
  (.seq (.r [(.s 8 (.mv false (.t 0))), (.s 9 (.nc (.t 8))), (.s 10 (.fa (.t 9) 1)), (.s 11 (.ld false none (.t 10))), (.s 12 (.bo .eql 0 (.t 11) (.c (.int .i64 0))))]) (.cond (.t 12) .skip (.exit 0))) (.block 1 
  (.seq (.r [(.s 13 (.mv false (.t 0))), (.s 14 (.cl (.c (.func x_tree_reader_next [] [])) [(.t 13)]))]) (.block 2 
  (.seq (.r [(.s 25 (.bo .eql 0 (.t 14) (.c (.int .u8 0)))), (.s 24 (.mv true (.t 25)))]) (.cond (.t 24) 
  (.seq 
  (.seq (.r [(.s 26 (.mv false (.t 1))), (.s 27 (.bo .gtr 0 (.t 26) (.c (.int .i64 0))))]) (.cond (.t 27) (.r [(.s 28 (.mv false (.t 0))), (.s 29 (.ld false (some 2) (.t 5))), (.s 30 (.cl (.c (.func x_tree_reader_fail [] [])) [(.t 28), (.c (.int .i64 71)), (.t 29)]))]) .skip)) 
  (.seq (.r [(.s 31 (.mv false (.t 7))), (.s 6 (.mv true (.t 31)))]) .ret)) 
  (.seq (.r [(.s 33 (.bo .eql 0 (.t 14) (.c (.int .u8 3)))), (.s 32 (.mv true (.t 33)))]) (.cond (.t 32) 
  (.seq 
  (.seq (.r [(.s 34 (.mv false (.t 1))), (.s 35 (.bo .gtr 0 (.t 34) (.c (.int .i64 0))))]) (.cond (.t 35) 
  (.seq (.r [(.s 36 (.mv false (.t 0))), (.s 37 (.cl (.c (.func x_tree_reader_off [] [])) [(.t 36)]))]) 
  (.seq (.r [(.s 38 (.mv false (.t 7))), (.s 6 (.mv true (.t 38)))]) .ret)) .skip)) (.r [(.s 39 (.mv false (.t 0))), (.s 40 (.mv false (.t 0))), (.s 41 (.nc (.t 40))), (.s 42 (.fa (.t 41) 0)), (.s 43 (.ld false none (.t 42))), (.s 44 (.ia 4 (.t 43) (.c (.int .i64 0)))), (.s 45 (.fa (.t 44) 2)), (.s 46 (.ld false (some 2) (.t 45))), (.s 47 (.cl (.c (.func x_tree_reader_fail [] [])) [(.t 39), (.c (.int .i64 130)), (.t 46)]))])) 
  (.seq (.r [(.s 49 (.bo .eql 0 (.t 14) (.c (.int .u8 1)))), (.s 48 (.mv true (.t 49)))]) (.cond (.t 48) (.r [(.s 50 (.mv true (.t 7))), (.s 51 (.mv false (.t 0))), (.s 52 (.mv false (.t 1))), (.s 53 (.cl (.c (.func x_tree_reader_statement [] [])) [(.t 51), (.t 52)])), (.s 54 (.ap false 4 80 (.t 50) (.t 53))), (.s 7 (.mv true (.t 54)))]) (.r [(.s 15 (.mv false (.t 0))), (.s 16 (.mv false (.t 0))), (.s 17 (.nc (.t 16))), (.s 18 (.fa (.t 17) 0)), (.s 19 (.ld false none (.t 18))), (.s 20 (.ia 4 (.t 19) (.c (.int .i64 0)))), (.s 21 (.fa (.t 20) 2)), (.s 22 (.ld false (some 2) (.t 21))), (.s 23 (.cl (.c (.func x_tree_reader_fail [] [])) [(.t 15), (.c (.int .i64 130)), (.t 22)]))])))))))))))
def c_tree_reader_list (x_tree_reader_next x_tree_reader_fail x_tree_reader_off x_tree_reader_statement : Nat) : CF :=
  (.mk 56 
  (.seq (.r [(.s 5 (.bx false (.t 2))), (.s 6 (.mv false (.c (.vec true []))))]) 
  (.seq (.r [(.s 7 (.mv false (.c (.vec true []))))]) 
  (.seq (.block 0 (.loop (l_tree_reader_list_0 x_tree_reader_next x_tree_reader_fail x_tree_reader_off x_tree_reader_statement))) 
  (.seq (.r [(.s 55 (.mv false (.t 7))), (.s 6 (.mv true (.t 55)))]) .ret)))) [(.t 6)])
def l_tree_write_0 (x_tree_quoted : Nat) : CC :=
  
  (.seq (.r [(.s 48 (.bo .lss 0 (.t 47) (.t 46)))]) 
  (.seq (.cond (.t 48) .skip (.exit 2)) 
  (.seq (.block 3 
  (.seq (.r [(.s 49 (.ia 1 (.t 45) (.t 47))), (.s 50 (.ld false none (.t 49))), (.s 11 (.mv true (.t 50)))]) 
  (.seq (.r [(.s 52 (.mv false (.t 11))), (.s 53 (.cl (.c (.func x_tree_quoted [] [])) [(.t 52)])), (.s 51 (.mv true (.t 53))), (.s 54 (.ex (.t 51) 0)), (.s 55 (.ex (.t 51) 1)), (.s 12 (.mv true (.t 54))), (.s 13 (.mv true (.t 55)))]) 
  (.seq 
  (.seq (.r [(.s 56 (.mv false (.t 13))), (.s 57 (.uo .not (.t 56)))]) (.cond (.t 57) 
  (.seq (.r [(.s 6 (.mv false (.c (.bool false))))]) .ret) .skip)) (.r [(.s 58 (.mv true (.t 9))), (.s 59 (.mv false (.t 12))), (.s 60 (.bs false 1 1 [(.str [])] [(0, (.t 59))])), (.s 61 (.ap false 1 16 (.t 58) (.t 60))), (.s 9 (.mv true (.t 61)))]))))) (.r [(.s 62 (.bo .add 0 (.t 47) (.c (.int .i64 1)))), (.s 47 (.mv true (.t 62)))]))))
def l_tree_write_1 (x_tree_quoted x_strings_Repeat x_strings_Join x_strings_Builder_WriteString x_tree_write : Nat) : CC :=
  
  (.seq (.r [(.s 18 (.bo .lss 0 (.t 17) (.t 16)))]) 
  (.seq (.cond (.t 18) .skip (.exit 0)) 
  (.seq (.block 1 
  (.seq (.r [(.s 19 (.ia 4 (.t 15) (.t 17))), (.s 20 (.ld false (some 4) (.t 19))), (.s 8 (.al [(.vec true []), (.vec true []), (.bool false), (.vec true [])])), (.n (.st true 4 (.t 8) (.t 20)))]) 
  (.seq 
  (.seq (.r [(.s 21 (.fa (.t 8) 0)), (.s 22 (.ld false none (.t 21))), (.s 23 (.le true (.t 22))), (.s 24 (.bo .eql 0 (.t 23) (.c (.int .i64 0)))), (.s 25 (.mv true (.t 24))), (.g 25 false 26 (.fa (.t 8) 2)), (.g 25 false 27 (.ld false none (.t 26))), (.g 25 false 28 (.uo .not (.t 27))), (.g 25 false 29 (.mv true (.t 28))), (.g 29 true 30 (.fa (.t 8) 3)), (.g 29 true 31 (.ld false none (.t 30))), (.g 29 true 32 (.le true (.t 31))), (.g 29 true 33 (.bo .gtr 0 (.t 32) (.c (.int .i64 0)))), (.g 25 false 34 (.pk (.t 29) (.t 33) (.c (.bool false)))), (.s 35 (.pk (.t 25) (.c (.bool true)) (.t 34))), (.s 36 (.mv true (.t 35))), (.g 36 false 37 (.fa (.t 8) 2)), (.g 36 false 38 (.ld false none (.t 37))), (.g 36 false 39 (.mv true (.t 38))), (.g 39 true 40 (.mv false (.t 2))), (.g 39 true 41 (.bo .geq 0 (.t 40) (.c (.int .i64 32)))), (.g 36 false 42 (.pk (.t 39) (.t 41) (.c (.bool false)))), (.s 43 (.pk (.t 36) (.c (.bool true)) (.t 42)))]) (.cond (.t 43) 
  (.seq (.r [(.s 6 (.mv false (.c (.bool false))))]) .ret) .skip)) 
  (.seq (.r [(.s 9 (.mv false (.c (.vec true []))))]) 
  (.seq 
  (.seq (.r [(.s 44 (.fa (.t 8) 0)), (.s 45 (.ld false none (.t 44))), (.s 46 (.le true (.t 45))), (.s 47 (.mv false (.c (.int .i64 0))))]) (.block 2 (.loop (l_tree_write_0 x_tree_quoted)))) 
  (.seq (.r [(.s 63 (.mv false (.t 2))), (.s 64 (.cl (.c (.func x_strings_Repeat [] [])) [(.c (.str [32, 32, 32, 32])), (.t 63)])), (.s 14 (.mv true (.t 64)))]) 
  (.seq (.r [(.s 65 (.mv false (.t 0))), (.s 66 (.mv false (.t 14))), (.s 67 (.mv false (.t 9))), (.s 68 (.cl (.c (.func x_strings_Join [] [])) [(.t 67), (.c (.str [32]))])), (.s 69 (.bo .add 0 (.t 66) (.t 68))), (.s 70 (.cl (.c (.func x_strings_Builder_WriteString [] [])) [(.t 65), (.t 69)]))]) 
  (.seq 
  (.seq (.r [(.s 71 (.fa (.t 8) 2)), (.s 72 (.ld false none (.t 71))), (.s 73 (.uo .not (.t 72)))]) (.cond (.t 73) 
  (.seq (.r [(.s 74 (.mv false (.t 0))), (.s 75 (.cl (.c (.func x_strings_Builder_WriteString [] [])) [(.t 74), (.c (.str [59, 10]))]))]) (.exit 1)) .skip)) 
  (.seq (.r [(.s 76 (.mv false (.t 0))), (.s 77 (.cl (.c (.func x_strings_Builder_WriteString [] [])) [(.t 76), (.c (.str [32, 123, 10]))]))]) 
  (.seq 
  (.seq (.r [(.s 78 (.mv false (.t 0))), (.s 79 (.fa (.t 8) 3)), (.s 80 (.ld false none (.t 79))), (.s 81 (.mv false (.t 2))), (.s 82 (.bo .add 0 (.t 81) (.c (.int .i64 1)))), (.s 83 (.cl (.c (.func x_tree_write [] [])) [(.t 78), (.t 80), (.t 82)])), (.s 84 (.uo .not (.t 83)))]) (.cond (.t 84) 
  (.seq (.r [(.s 6 (.mv false (.c (.bool false))))]) .ret) .skip)) (.r [(.s 85 (.mv false (.t 0))), (.s 86 (.mv false (.t 14))), (.s 87 (.bo .add 0 (.t 86) (.c (.str [125, 10])))), (.s 88 (.cl (.c (.func x_strings_Builder_WriteString [] [])) [(.t 85), (.t 87)]))]))))))))))) (.r [(.s 89 (.bo .add 0 (.t 17) (.c (.int .i64 1)))), (.s 17 (.mv true (.t 89)))]))))
def c_tree_write (x_tree_quoted x_strings_Repeat x_strings_Join x_strings_Builder_WriteString x_tree_write : Nat) : CF :=
  (.mk 90 
  (.seq (.r [(.s 6 (.mv false (.c (.bool false))))]) 
  (.seq 
  (.seq (.r [(.s 15 (.mv false (.t 1))), (.s 16 (.le true (.t 15))), (.s 17 (.mv false (.c (.int .i64 0))))]) (.block 0 (.loop (l_tree_write_1 x_tree_quoted x_strings_Repeat x_strings_Join x_strings_Builder_WriteString x_tree_write)))) 
  (.seq (.r [(.s 6 (.mv false (.c (.bool true))))]) .ret))) [(.t 6)])
def l_slices_Equal_string_0 : CC :=
  
  (.seq (.r [(.s 14 (.bo .lss 0 (.t 13) (.t 12)))]) 
  (.seq (.cond (.t 14) .skip (.exit 0)) 
  (.seq (.block 1 
  (.seq (.r [(.s 15 (.mv false (.t 13))), (.s 5 (.mv true (.t 15)))]) 
  (.seq (.r [(.s 16 (.mv false (.t 0))), (.s 17 (.mv false (.t 5))), (.s 18 (.ia 1 (.t 16) (.t 17))), (.s 19 (.ld false none (.t 18))), (.s 20 (.mv false (.t 1))), (.s 21 (.mv false (.t 5))), (.s 22 (.ia 1 (.t 20) (.t 21))), (.s 23 (.ld false none (.t 22))), (.s 24 (.bo .neq 0 (.t 19) (.t 23)))]) (.cond (.t 24) 
  (.seq (.r [(.s 4 (.mv false (.c (.bool false))))]) .ret) .skip)))) (.r [(.s 25 (.bo .add 0 (.t 13) (.c (.int .i64 1)))), (.s 13 (.mv true (.t 25)))]))))
def c_slices_Equal_string : CF :=
  (.mk 26 
  (.seq (.r [(.s 4 (.mv false (.c (.bool false))))]) 
  (.seq 
  (.seq (.r [(.s 6 (.mv false (.t 0))), (.s 7 (.le true (.t 6))), (.s 8 (.mv false (.t 1))), (.s 9 (.le true (.t 8))), (.s 10 (.bo .neq 0 (.t 7) (.t 9)))]) (.cond (.t 10) 
  (.seq (.r [(.s 4 (.mv false (.c (.bool false))))]) .ret) .skip)) 
  (.seq 
  (.seq (.r [(.s 11 (.mv false (.t 0))), (.s 12 (.le true (.t 11))), (.s 13 (.mv false (.c (.int .i64 0))))]) (.block 0 (.loop l_slices_Equal_string_0))) 
  (.seq (.r [(.s 4 (.mv false (.c (.bool true))))]) .ret)))) [(.t 4)])
def l_slices_EqualFunc_tree_Node_0 : CC :=
  
  (.seq (.r [(.s 18 (.bo .lss 0 (.t 17) (.t 16)))]) 
  (.seq (.cond (.t 18) .skip (.exit 0)) 
  (.seq (.block 1 
  (.seq (.r [(.s 19 (.mv false (.t 17))), (.s 20 (.ia 4 (.t 15) (.t 17))), (.s 21 (.ld false (some 4) (.t 20))), (.s 8 (.al [(.vec true []), (.vec true []), (.bool false), (.vec true [])])), (.s 7 (.mv true (.t 19))), (.n (.st true 4 (.t 8) (.t 21)))]) 
  (.seq (.r [(.s 22 (.mv false (.t 1))), (.s 23 (.mv false (.t 7))), (.s 24 (.ia 4 (.t 22) (.t 23))), (.s 25 (.ld false (some 4) (.t 24))), (.s 9 (.al [(.vec true []), (.vec true []), (.bool false), (.vec true [])])), (.n (.st true 4 (.t 9) (.t 25)))]) 
  (.seq (.r [(.s 26 (.mv false (.t 2))), (.s 27 (.ld false (some 4) (.t 8))), (.s 28 (.ld false (some 4) (.t 9))), (.s 29 (.cl (.t 26) [(.t 27), (.t 28)])), (.s 30 (.uo .not (.t 29)))]) (.cond (.t 30) 
  (.seq (.r [(.s 6 (.mv false (.c (.bool false))))]) .ret) .skip))))) (.r [(.s 31 (.bo .add 0 (.t 17) (.c (.int .i64 1)))), (.s 17 (.mv true (.t 31)))]))))
def c_slices_EqualFunc_tree_Node : CF :=
  (.mk 32 
  (.seq (.r [(.s 6 (.mv false (.c (.bool false))))]) 
  (.seq 
  (.seq (.r [(.s 10 (.mv false (.t 0))), (.s 11 (.le true (.t 10))), (.s 12 (.mv false (.t 1))), (.s 13 (.le true (.t 12))), (.s 14 (.bo .neq 0 (.t 11) (.t 13)))]) (.cond (.t 14) 
  (.seq (.r [(.s 6 (.mv false (.c (.bool false))))]) .ret) .skip)) 
  (.seq 
  (.seq (.r [(.s 15 (.mv false (.t 0))), (.s 16 (.le true (.t 15))), (.s 17 (.mv false (.c (.int .i64 0))))]) (.block 0 (.loop l_slices_EqualFunc_tree_Node_0))) 
  (.seq (.r [(.s 6 (.mv false (.c (.bool true))))]) .ret)))) [(.t 6)])
def c_tree_Same_1 (x_slices_Equal_string x_tree_Same : Nat) : CF :=
  (.mk 24 
  (.seq (.r [(.s 2 (.bx false (.t 0))), (.s 3 (.bx false (.t 1))), (.s 4 (.mv false (.c (.bool false))))]) 
  (.seq (.r [(.s 5 (.fa (.t 2) 2)), (.s 6 (.ld false none (.t 5))), (.s 7 (.fa (.t 3) 2)), (.s 8 (.ld false none (.t 7))), (.s 9 (.bo .eql 3 (.t 6) (.t 8))), (.s 10 (.mv true (.t 9))), (.g 10 true 11 (.fa (.t 2) 0)), (.g 10 true 12 (.ld false none (.t 11))), (.g 10 true 13 (.fa (.t 3) 0)), (.g 10 true 14 (.ld false none (.t 13))), (.g 10 true 15 (.cl (.c (.func x_slices_Equal_string [] [])) [(.t 12), (.t 14)])), (.s 16 (.pk (.t 10) (.t 15) (.c (.bool false)))), (.s 17 (.mv true (.t 16))), (.g 17 true 18 (.fa (.t 2) 3)), (.g 17 true 19 (.ld false none (.t 18))), (.g 17 true 20 (.fa (.t 3) 3)), (.g 17 true 21 (.ld false none (.t 20))), (.g 17 true 22 (.cl (.c (.func x_tree_Same [] [])) [(.t 19), (.t 21)])), (.s 23 (.pk (.t 17) (.t 22) (.c (.bool false)))), (.s 4 (.mv true (.t 23)))]) .ret)) [(.t 4)])
def l_lex_check_0 : CC :=
  
  (.seq (.r [(.s 14 (.bo .lss 0 (.t 13) (.t 12)))]) 
  (.seq (.cond (.t 14) .skip (.exit 0)) 
  (.seq (.block 1 
  (.seq (.r [(.s 15 (.mv false (.t 13))), (.s 5 (.mv true (.t 15)))]) 
  (.seq (.block 2 
  (.seq (.r [(.s 17 (.fa (.t 4) 0)), (.s 18 (.ld false none (.t 17))), (.s 19 (.bo .gtr 0 (.t 18) (.c (.int .i64 4096)))), (.s 16 (.mv true (.t 19)))]) (.cond (.t 16) 
  (.seq (.r [(.s 20 (.ld false (some 2) (.t 4))), (.n (.st true 2 (.t 2) (.t 20))), (.s 3 (.mv false (.c (.int .i64 3))))]) .ret) 
  (.seq (.r [(.s 22 (.mv false (.t 0))), (.s 23 (.mv false (.t 5))), (.s 24 (.iS (.t 22) (.t 23))), (.s 25 (.bo .eql 0 (.t 24) (.c (.int .u8 10)))), (.s 21 (.mv true (.t 25)))]) (.cond (.t 21) 
  (.seq (.r [(.s 26 (.fa (.t 4) 0)), (.s 27 (.ld false none (.t 26))), (.s 28 (.bo .add 0 (.t 27) (.c (.int .i64 1)))), (.s 29 (.bd true [(.int .i64 0), (.int .i64 0)] [(0, (1, (.t 28))), (1, (1, (.c (.int .i64 1))))])), (.n (.st true 2 (.t 4) (.t 29)))]) (.exit 1)) 
  (.seq (.r [(.s 31 (.mv false (.t 0))), (.s 32 (.mv false (.t 5))), (.s 33 (.iS (.t 31) (.t 32))), (.s 34 (.bo .lss 0 (.t 33) (.c (.int .u8 32)))), (.s 35 (.mv true (.t 34))), (.g 35 false 36 (.mv false (.t 0))), (.g 35 false 37 (.mv false (.t 5))), (.g 35 false 38 (.iS (.t 36) (.t 37))), (.g 35 false 39 (.bo .gtr 0 (.t 38) (.c (.int .u8 126)))), (.s 40 (.pk (.t 35) (.c (.bool true)) (.t 39))), (.s 30 (.mv true (.t 40)))]) (.cond (.t 30) 
  (.seq (.r [(.s 41 (.ld false (some 2) (.t 4))), (.n (.st true 2 (.t 2) (.t 41))), (.s 3 (.mv false (.c (.int .i64 70))))]) .ret) .skip))))))) (.r [(.s 42 (.fa (.t 4) 1)), (.s 43 (.ld false none (.t 42))), (.s 44 (.bo .add 0 (.t 43) (.c (.int .i64 1)))), (.s 45 (.fa (.t 4) 1)), (.n (.st true 1 (.t 45) (.t 44)))])))) (.r [(.s 46 (.bo .add 0 (.t 13) (.c (.int .i64 1)))), (.s 13 (.mv true (.t 46)))]))))
def c_lex_check : CF :=
  (.mk 48 
  (.seq (.r [(.s 2 (.al [(.int .i64 0), (.int .i64 0)])), (.s 3 (.mv false (.c (.int .i64 0))))]) 
  (.seq 
  (.seq (.r [(.s 6 (.mv false (.t 0))), (.s 7 (.le false (.t 6))), (.s 8 (.bo .gtr 0 (.t 7) (.c (.int .i64 65536))))]) (.cond (.t 8) 
  (.seq (.r [(.s 9 (.bd true [(.int .i64 0), (.int .i64 0)] [])), (.n (.st true 2 (.t 2) (.t 9))), (.s 3 (.mv false (.c (.int .i64 3))))]) .ret) .skip)) 
  (.seq (.r [(.s 10 (.bd true [(.int .i64 0), (.int .i64 0)] [(0, (1, (.c (.int .i64 1)))), (1, (1, (.c (.int .i64 1))))])), (.s 4 (.al [(.int .i64 0), (.int .i64 0)])), (.n (.st true 2 (.t 4) (.t 10)))]) 
  (.seq 
  (.seq (.r [(.s 11 (.mv false (.t 0))), (.s 12 (.le false (.t 11))), (.s 13 (.mv false (.c (.int .i64 0))))]) (.block 0 (.loop l_lex_check_0))) 
  (.seq (.r [(.s 47 (.bd true [(.int .i64 0), (.int .i64 0)] [])), (.n (.st true 2 (.t 2) (.t 47))), (.s 3 (.mv false (.c (.int .i64 0))))]) .ret))))) [(.c 2 (some 2)), (.t 3)])
def c_lex_reader_token (x_strings_IndexByte x_lex_reader_take x_lex_reader_until x_strings_HasPrefix x_strings_Index x_strings_IndexAny x_lex_reader_token_1 x_lex_reader_ends : Nat) : CF :=
  (.mk 109 
  (.seq (.r [(.s 1 (.bx false (.t 0))), (.s 2 (.al [(.int .u8 0), (.str []), (.int .i64 0), (.int .i64 0)])), (.s 3 (.mv false (.c (.bool false)))), (.s 4 (.mv false (.c (.int .i64 0))))]) 
  (.seq (.r [(.s 10 (.ld false none (.t 1))), (.s 11 (.nc (.t 10))), (.s 12 (.fa (.t 11) 1)), (.s 13 (.ld false (some 2) (.t 12))), (.s 14 (.bd true [(.int .u8 0), (.str []), (.int .i64 0), (.int .i64 0)] [(0, (1, (.c (.int .u8 1)))), (2, (2, (.t 13)))])), (.s 5 (.al [(.int .u8 0), (.str []), (.int .i64 0), (.int .i64 0)])), (.n (.st true 4 (.t 5) (.t 14)))]) 
  (.seq (.r [(.s 15 (.ld false none (.t 1))), (.s 16 (.nc (.t 15))), (.s 17 (.fa (.t 16) 0)), (.s 18 (.ld false none (.t 17))), (.s 19 (.iS (.t 18) (.c (.int .i64 0)))), (.s 6 (.mv true (.t 19)))]) 
  (.seq 
  (.seq (.r [(.s 20 (.mv false (.t 6))), (.s 21 (.cl (.c (.func x_strings_IndexByte [] [])) [(.c (.str [123, 125, 59, 91, 93])), (.t 20)])), (.s 7 (.mv true (.t 21)))]) (.block 0 
  (.seq (.r [(.s 30 (.mv false (.t 6))), (.s 31 (.bo .eql 0 (.t 30) (.c (.int .u8 32)))), (.s 32 (.mv true (.t 31))), (.g 32 false 33 (.mv false (.t 6))), (.g 32 false 34 (.bo .eql 0 (.t 33) (.c (.int .u8 10)))), (.s 35 (.pk (.t 32) (.c (.bool true)) (.t 34))), (.s 29 (.mv true (.t 35)))]) (.cond (.t 29) 
  (.seq (.r [(.s 36 (.ld false none (.t 1))), (.s 37 (.cl (.c (.func x_lex_reader_take [] [])) [(.t 36), (.c (.int .i64 1))]))]) 
  (.seq (.r [(.s 38 (.ld false (some 4) (.t 5))), (.n (.st true 4 (.t 2) (.t 38))), (.s 3 (.mv false (.c (.bool false)))), (.s 4 (.mv false (.c (.int .i64 0))))]) .ret)) 
  (.seq (.r [(.s 40 (.mv false (.t 6))), (.s 41 (.bo .eql 0 (.t 40) (.c (.int .u8 35)))), (.s 39 (.mv true (.t 41)))]) (.cond (.t 39) 
  (.seq (.r [(.s 42 (.ld false none (.t 1))), (.s 43 (.ld false none (.t 1))), (.s 44 (.mf x_lex_reader_token_1 [] [(.t 1)])), (.s 45 (.cl (.c (.func x_lex_reader_until [] [])) [(.t 43), (.t 44)])), (.s 46 (.cl (.c (.func x_lex_reader_take [] [])) [(.t 42), (.t 45)]))]) 
  (.seq (.r [(.s 47 (.ld false (some 4) (.t 5))), (.n (.st true 4 (.t 2) (.t 47))), (.s 3 (.mv false (.c (.bool false)))), (.s 4 (.mv false (.c (.int .i64 0))))]) .ret)) 
  (.seq (.r [(.s 49 (.ld false none (.t 1))), (.s 50 (.nc (.t 49))), (.s 51 (.fa (.t 50) 0)), (.s 52 (.ld false none (.t 51))), (.s 53 (.cl (.c (.func x_strings_HasPrefix [] [])) [(.t 52), (.c (.str [47, 42]))])), (.s 48 (.mv true (.t 53)))]) (.cond (.t 48) 
  (.seq (.r [(.s 54 (.ld false none (.t 1))), (.s 55 (.nc (.t 54))), (.s 56 (.fa (.t 55) 0)), (.s 57 (.ld false none (.t 56))), (.s 58 (.sS (.t 57) (some (.c (.int .i64 2))) none)), (.s 59 (.cl (.c (.func x_strings_Index [] [])) [(.t 58), (.c (.str [42, 47]))])), (.s 8 (.mv true (.t 59)))]) 
  (.seq 
  (.seq (.r [(.s 60 (.mv false (.t 8))), (.s 61 (.bo .lss 0 (.t 60) (.c (.int .i64 0))))]) (.cond (.t 61) 
  (.seq (.r [(.s 62 (.ld false (some 4) (.t 5))), (.n (.st true 4 (.t 2) (.t 62))), (.s 3 (.mv false (.c (.bool false)))), (.s 4 (.mv false (.c (.int .i64 71))))]) .ret) .skip)) 
  (.seq (.r [(.s 63 (.ld false none (.t 1))), (.s 64 (.mv false (.t 8))), (.s 65 (.bo .add 0 (.t 64) (.c (.int .i64 4)))), (.s 66 (.cl (.c (.func x_lex_reader_take [] [])) [(.t 63), (.t 65)]))]) 
  (.seq (.r [(.s 67 (.ld false (some 4) (.t 5))), (.n (.st true 4 (.t 2) (.t 67))), (.s 3 (.mv false (.c (.bool false)))), (.s 4 (.mv false (.c (.int .i64 0))))]) .ret)))) 
  (.seq (.r [(.s 69 (.mv false (.t 6))), (.s 70 (.bo .eql 0 (.t 69) (.c (.int .u8 34)))), (.s 68 (.mv true (.t 70)))]) (.cond (.t 68) 
  (.seq (.r [(.s 71 (.ld false none (.t 1))), (.s 72 (.nc (.t 71))), (.s 73 (.fa (.t 72) 0)), (.s 74 (.ld false none (.t 73))), (.s 75 (.sS (.t 74) (some (.c (.int .i64 1))) none)), (.s 76 (.cl (.c (.func x_strings_IndexAny [] [])) [(.t 75), (.c (.str [34, 10]))])), (.s 9 (.mv true (.t 76)))]) 
  (.seq 
  (.seq (.r [(.s 77 (.mv false (.t 9))), (.s 78 (.bo .lss 0 (.t 77) (.c (.int .i64 0)))), (.s 79 (.mv true (.t 78))), (.g 79 false 80 (.ld false none (.t 1))), (.g 79 false 81 (.nc (.t 80))), (.g 79 false 82 (.fa (.t 81) 0)), (.g 79 false 83 (.ld false none (.t 82))), (.g 79 false 84 (.mv false (.t 9))), (.g 79 false 85 (.bo .add 0 (.t 84) (.c (.int .i64 1)))), (.g 79 false 86 (.iS (.t 83) (.t 85))), (.g 79 false 87 (.bo .eql 0 (.t 86) (.c (.int .u8 10)))), (.s 88 (.pk (.t 79) (.c (.bool true)) (.t 87)))]) (.cond (.t 88) 
  (.seq (.r [(.s 89 (.ld false (some 4) (.t 5))), (.n (.st true 4 (.t 2) (.t 89))), (.s 3 (.mv false (.c (.bool false)))), (.s 4 (.mv false (.c (.int .i64 71))))]) .ret) .skip)) (.r [(.s 90 (.ld false none (.t 1))), (.s 91 (.mv false (.t 9))), (.s 92 (.bo .add 0 (.t 91) (.c (.int .i64 2)))), (.s 93 (.cl (.c (.func x_lex_reader_take [] [])) [(.t 90), (.t 92)])), (.s 94 (.mv false (.t 9))), (.s 95 (.bo .add 0 (.t 94) (.c (.int .i64 1)))), (.s 96 (.sS (.t 93) (some (.c (.int .i64 1))) (some (.t 95)))), (.s 97 (.fa (.t 5) 1)), (.n (.st true 1 (.t 97) (.t 96)))]))) 
  (.seq (.r [(.s 99 (.mv false (.t 7))), (.s 100 (.bo .geq 0 (.t 99) (.c (.int .i64 0)))), (.s 98 (.mv true (.t 100)))]) (.cond (.t 98) (.r [(.s 101 (.mv false (.t 7))), (.s 102 (.ci .u8 (.t 101))), (.s 103 (.bo .add 0 (.c (.int .u8 2)) (.t 102))), (.s 104 (.ld false none (.t 1))), (.s 105 (.cl (.c (.func x_lex_reader_take [] [])) [(.t 104), (.c (.int .i64 1))])), (.s 106 (.fa (.t 5) 0)), (.n (.st true 1 (.t 106) (.t 103))), (.s 107 (.fa (.t 5) 1)), (.n (.st true 1 (.t 107) (.t 105)))]) (.r [(.s 22 (.ld false none (.t 1))), (.s 23 (.ld false none (.t 1))), (.s 24 (.ld false none (.t 1))), (.s 25 (.mf x_lex_reader_ends [(.t 24)] [])), (.s 26 (.cl (.c (.func x_lex_reader_until [] [])) [(.t 23), (.t 25)])), (.s 27 (.cl (.c (.func x_lex_reader_take [] [])) [(.t 22), (.t 26)])), (.s 28 (.fa (.t 5) 1)), (.n (.st true 1 (.t 28) (.t 27)))]))))))))))))) 
  (.seq (.r [(.s 108 (.ld false (some 4) (.t 5))), (.n (.st true 4 (.t 2) (.t 108))), (.s 3 (.mv false (.c (.bool true)))), (.s 4 (.mv false (.c (.int .i64 0))))]) .ret))))) [(.c 2 (some 4)), (.t 3), (.t 4)])
def c_tree_reader_next : CF :=
  (.mk 16 
  (.seq (.r [(.s 2 (.mv false (.c (.int .u8 0))))]) 
  (.seq 
  (.seq (.r [(.s 3 (.mv false (.t 0))), (.s 4 (.nc (.t 3))), (.s 5 (.fa (.t 4) 0)), (.s 6 (.ld false none (.t 5))), (.s 7 (.le true (.t 6))), (.s 8 (.bo .eql 0 (.t 7) (.c (.int .i64 0))))]) (.cond (.t 8) 
  (.seq (.r [(.s 2 (.mv false (.c (.int .u8 0))))]) .ret) .skip)) 
  (.seq (.r [(.s 9 (.mv false (.t 0))), (.s 10 (.nc (.t 9))), (.s 11 (.fa (.t 10) 0)), (.s 12 (.ld false none (.t 11))), (.s 13 (.ia 4 (.t 12) (.c (.int .i64 0)))), (.s 14 (.fa (.t 13) 0)), (.s 15 (.ld false none (.t 14))), (.s 2 (.mv true (.t 15)))]) .ret))) [(.t 2)])
def c_tree_reader_fail : CF :=
  (.mk 19 
  (.seq (.r [(.s 5 (.bx false (.t 2)))]) 
  (.seq (.r [(.s 6 (.mv false (.t 0))), (.s 7 (.nc (.t 6))), (.s 8 (.fa (.t 7) 1)), (.s 9 (.ld false none (.t 8))), (.s 10 (.bo .eql 0 (.t 9) (.c (.int .i64 0))))]) (.cond (.t 10) (.a [(.s 11 (.mv false (.t 0))), (.s 12 (.mv false (.t 0))), (.s 13 (.mv false (.t 1))), (.s 14 (.ld false (some 2) (.t 5))), (.s 15 (.nc (.t 11))), (.s 16 (.fa (.t 15) 1)), (.n (.st true 1 (.t 16) (.t 13))), (.s 17 (.nc (.t 12))), (.s 18 (.fa (.t 17) 2)), (.n (.st true 2 (.t 18) (.t 14)))] [(5, 16)]) .skip))) [])
def c_tree_reader_off : CF :=
  (.mk 19 
  (.seq (.r [(.s 2 (.al [(.int .u8 0), (.str []), (.int .i64 0), (.int .i64 0)]))]) 
  (.seq (.r [(.s 4 (.mv false (.t 0))), (.s 5 (.nc (.t 4))), (.s 6 (.fa (.t 5) 0)), (.s 7 (.ld false none (.t 6))), (.s 8 (.ia 4 (.t 7) (.c (.int .i64 0)))), (.s 9 (.ld false (some 4) (.t 8))), (.s 3 (.al [(.int .u8 0), (.str []), (.int .i64 0), (.int .i64 0)])), (.n (.st true 4 (.t 3) (.t 9)))]) 
  (.seq (.r [(.s 10 (.mv false (.t 0))), (.s 11 (.mv false (.t 0))), (.s 12 (.nc (.t 11))), (.s 13 (.fa (.t 12) 0)), (.s 14 (.ld false none (.t 13))), (.s 15 (.sV 4 (.t 14) (some (.c (.int .i64 1))) none)), (.s 16 (.nc (.t 10))), (.s 17 (.fa (.t 16) 0)), (.n (.st true 1 (.t 17) (.t 15)))]) 
  (.seq (.r [(.s 18 (.ld false (some 4) (.t 3))), (.n (.st true 4 (.t 2) (.t 18)))]) .ret)))) [(.c 2 (some 4))])
def l_tree_reader_statement_0 (x_slices_Clone_string x_slices_Clone_api_Pos : Nat) : CC :=
  
  (.seq (.r [(.s 32 (.bo .lss 0 (.t 31) (.t 30)))]) 
  (.seq (.cond (.t 32) .skip (.exit 0)) 
  (.seq (.block 1 
  (.seq (.r [(.s 33 (.mv false (.t 31))), (.s 34 (.ia 1 (.t 29) (.t 31))), (.s 35 (.ld false none (.t 34))), (.s 9 (.mv true (.t 33))), (.s 10 (.mv true (.t 35)))]) (.r [(.s 36 (.mv true (.t 7))), (.s 37 (.fa (.t 6) 0)), (.s 38 (.ld false none (.t 37))), (.s 39 (.cl (.c (.func x_slices_Clone_string [] [])) [(.t 38)])), (.s 40 (.mv false (.t 10))), (.s 41 (.bs false 1 1 [(.str [])] [(0, (.t 40))])), (.s 42 (.ap false 1 16 (.t 39) (.t 41))), (.s 43 (.fa (.t 6) 1)), (.s 44 (.ld false none (.t 43))), (.s 45 (.cl (.c (.func x_slices_Clone_api_Pos [] [])) [(.t 44)])), (.s 46 (.fa (.t 8) 1)), (.s 47 (.ld false none (.t 46))), (.s 48 (.mv false (.t 9))), (.s 49 (.ia 2 (.t 47) (.t 48))), (.s 50 (.ld false (some 2) (.t 49))), (.s 51 (.bs false 1 2 [(.int .i64 0), (.int .i64 0)] [(0, (.t 50))])), (.s 52 (.ap false 2 16 (.t 45) (.t 51))), (.s 53 (.bd true [(.vec true []), (.vec true []), (.bool false), (.vec true [])] [(0, (1, (.t 42))), (1, (1, (.t 52)))])), (.s 54 (.bs false 1 4 [(.vec false []), (.vec false []), (.bool false), (.vec false [])] [(0, (.t 53))])), (.s 55 (.ap false 4 80 (.t 36) (.t 54))), (.s 7 (.mv true (.t 55)))]))) (.r [(.s 56 (.bo .add 0 (.t 31) (.c (.int .i64 1)))), (.s 31 (.mv true (.t 56)))]))))
def c_tree_reader_statement (x_tree_reader_words x_tree_reader_next x_tree_reader_off x_slices_Clone_string x_slices_Clone_api_Pos x_tree_reader_fail x_tree_reader_list : Nat) : CF :=
  (.mk 150 
  (.seq (.r [(.s 4 (.mv false (.c (.vec true []))))]) 
  (.seq (.r [(.s 12 (.mv false (.t 0))), (.s 13 (.nc (.t 12))), (.s 14 (.fa (.t 13) 0)), (.s 15 (.ld false none (.t 14))), (.s 16 (.ia 4 (.t 15) (.c (.int .i64 0)))), (.s 17 (.fa (.t 16) 2)), (.s 18 (.ld false (some 2) (.t 17))), (.s 5 (.al [(.int .i64 0), (.int .i64 0)])), (.n (.st true 2 (.t 5) (.t 18)))]) 
  (.seq (.r [(.s 19 (.mv false (.t 0))), (.s 20 (.cl (.c (.func x_tree_reader_words [] [])) [(.t 19)])), (.s 6 (.al [(.vec true []), (.vec true []), (.bool false), (.vec true [])])), (.n (.st true 4 (.t 6) (.t 20)))]) 
  (.seq (.r [(.s 7 (.mv false (.c (.vec true []))))]) 
  (.seq 
  (.seq (.r [(.s 21 (.mv false (.t 0))), (.s 22 (.cl (.c (.func x_tree_reader_next [] [])) [(.t 21)])), (.s 23 (.bo .eql 0 (.t 22) (.c (.int .u8 5))))]) (.cond (.t 23) 
  (.seq (.r [(.s 24 (.mv false (.t 0))), (.s 25 (.cl (.c (.func x_tree_reader_off [] [])) [(.t 24)]))]) 
  (.seq (.r [(.s 26 (.mv false (.t 0))), (.s 27 (.cl (.c (.func x_tree_reader_words [] [])) [(.t 26)])), (.s 8 (.al [(.vec true []), (.vec true []), (.bool false), (.vec true [])])), (.n (.st true 4 (.t 8) (.t 27)))]) 
  (.seq 
  (.seq (.r [(.s 28 (.fa (.t 8) 0)), (.s 29 (.ld false none (.t 28))), (.s 30 (.le true (.t 29))), (.s 31 (.mv false (.c (.int .i64 0))))]) (.block 0 (.loop (l_tree_reader_statement_0 x_slices_Clone_string x_slices_Clone_api_Pos)))) 
  (.seq (.r [(.s 57 (.mv false (.t 0))), (.s 58 (.cl (.c (.func x_tree_reader_next [] [])) [(.t 57)])), (.s 59 (.bo .eql 0 (.t 58) (.c (.int .u8 6)))), (.s 60 (.mv true (.t 59))), (.g 60 true 61 (.mv false (.t 7))), (.g 60 true 62 (.le true (.t 61))), (.g 60 true 63 (.bo .gtr 0 (.t 62) (.c (.int .i64 0)))), (.s 64 (.pk (.t 60) (.t 63) (.c (.bool false))))]) (.cond (.t 64) (.r [(.s 65 (.mv false (.t 0))), (.s 66 (.cl (.c (.func x_tree_reader_off [] [])) [(.t 65)]))]) 
  (.seq (.r [(.s 67 (.mv false (.t 0))), (.s 68 (.cl (.c (.func x_tree_reader_next [] [])) [(.t 67)])), (.s 69 (.bo .neq 0 (.t 68) (.c (.int .u8 0))))]) (.cond (.t 69) 
  (.seq (.r [(.s 70 (.mv false (.t 0))), (.s 71 (.mv false (.t 0))), (.s 72 (.nc (.t 71))), (.s 73 (.fa (.t 72) 0)), (.s 74 (.ld false none (.t 73))), (.s 75 (.ia 4 (.t 74) (.c (.int .i64 0)))), (.s 76 (.fa (.t 75) 2)), (.s 77 (.ld false (some 2) (.t 76))), (.s 78 (.cl (.c (.func x_tree_reader_fail [] [])) [(.t 70), (.c (.int .i64 130)), (.t 77)]))]) 
  (.seq (.r [(.s 4 (.mv false (.c (.vec true []))))]) .ret)) .skip))))))) .skip)) 
  (.seq (.block 2 
  (.seq (.r [(.s 89 (.mv false (.t 0))), (.s 90 (.cl (.c (.func x_tree_reader_next [] [])) [(.t 89)])), (.s 91 (.bo .eql 0 (.t 90) (.c (.int .u8 0)))), (.s 88 (.mv true (.t 91)))]) (.cond (.t 88) (.r [(.s 92 (.mv false (.t 0))), (.s 93 (.ld false (some 2) (.t 5))), (.s 94 (.cl (.c (.func x_tree_reader_fail [] [])) [(.t 92), (.c (.int .i64 71)), (.t 93)]))]) 
  (.seq (.r [(.s 96 (.mv false (.t 0))), (.s 97 (.cl (.c (.func x_tree_reader_next [] [])) [(.t 96)])), (.s 98 (.bo .eql 0 (.t 97) (.c (.int .u8 4)))), (.s 95 (.mv true (.t 98)))]) (.cond (.t 95) 
  (.seq (.r [(.s 99 (.mv false (.t 0))), (.s 100 (.cl (.c (.func x_tree_reader_off [] [])) [(.t 99)]))]) 
  (.seq 
  (.seq (.r [(.s 101 (.mv false (.t 7))), (.s 102 (.le true (.t 101))), (.s 103 (.bo .gtr 0 (.t 102) (.c (.int .i64 0))))]) (.cond (.t 103) 
  (.seq (.r [(.s 104 (.mv false (.t 7))), (.s 4 (.mv true (.t 104)))]) .ret) .skip)) 
  (.seq (.r [(.s 105 (.ld false (some 4) (.t 6))), (.s 106 (.bs false 1 4 [(.vec false []), (.vec false []), (.bool false), (.vec false [])] [(0, (.t 105))])), (.s 4 (.mv true (.t 106)))]) .ret))) 
  (.seq (.r [(.s 108 (.mv false (.t 0))), (.s 109 (.cl (.c (.func x_tree_reader_next [] [])) [(.t 108)])), (.s 110 (.bo .eql 0 (.t 109) (.c (.int .u8 2)))), (.s 111 (.mv true (.t 110))), (.g 111 true 112 (.mv false (.t 7))), (.g 111 true 113 (.le true (.t 112))), (.g 111 true 114 (.bo .eql 0 (.t 113) (.c (.int .i64 0)))), (.s 115 (.pk (.t 111) (.t 114) (.c (.bool false)))), (.s 116 (.mv true (.t 115))), (.g 116 true 117 (.mv false (.t 1))), (.g 116 true 118 (.bo .eql 0 (.t 117) (.c (.int .i64 32)))), (.s 119 (.pk (.t 116) (.t 118) (.c (.bool false)))), (.s 107 (.mv true (.t 119)))]) (.cond (.t 107) (.r [(.s 120 (.mv false (.t 0))), (.s 121 (.mv false (.t 0))), (.s 122 (.nc (.t 121))), (.s 123 (.fa (.t 122) 0)), (.s 124 (.ld false none (.t 123))), (.s 125 (.ia 4 (.t 124) (.c (.int .i64 0)))), (.s 126 (.fa (.t 125) 2)), (.s 127 (.ld false (some 2) (.t 126))), (.s 128 (.cl (.c (.func x_tree_reader_fail [] [])) [(.t 120), (.c (.int .i64 140)), (.t 127)]))]) 
  (.seq (.r [(.s 130 (.mv false (.t 0))), (.s 131 (.cl (.c (.func x_tree_reader_next [] [])) [(.t 130)])), (.s 132 (.bo .eql 0 (.t 131) (.c (.int .u8 2)))), (.s 133 (.mv true (.t 132))), (.g 133 true 134 (.mv false (.t 7))), (.g 133 true 135 (.le true (.t 134))), (.g 133 true 136 (.bo .eql 0 (.t 135) (.c (.int .i64 0)))), (.s 137 (.pk (.t 133) (.t 136) (.c (.bool false)))), (.s 129 (.mv true (.t 137)))]) (.cond (.t 129) 
  (.seq (.r [(.s 138 (.mv false (.t 0))), (.s 139 (.cl (.c (.func x_tree_reader_off [] [])) [(.t 138)])), (.s 11 (.al [(.int .u8 0), (.str []), (.int .i64 0), (.int .i64 0)])), (.n (.st true 4 (.t 11) (.t 139)))]) 
  (.seq (.r [(.s 140 (.fa (.t 6) 2)), (.n (.st false 1 (.t 140) (.c (.bool true))))]) 
  (.seq (.r [(.s 141 (.mv false (.t 0))), (.s 142 (.mv false (.t 1))), (.s 143 (.bo .add 0 (.t 142) (.c (.int .i64 1)))), (.s 144 (.fa (.t 11) 2)), (.s 145 (.ld false (some 2) (.t 144))), (.s 146 (.cl (.c (.func x_tree_reader_list [] [])) [(.t 141), (.t 143), (.t 145)])), (.s 147 (.fa (.t 6) 3)), (.n (.st true 1 (.t 147) (.t 146)))]) 
  (.seq (.r [(.s 148 (.ld false (some 4) (.t 6))), (.s 149 (.bs false 1 4 [(.vec false []), (.vec false []), (.bool false), (.vec false [])] [(0, (.t 148))])), (.s 4 (.mv true (.t 149)))]) .ret)))) (.r [(.s 79 (.mv false (.t 0))), (.s 80 (.mv false (.t 0))), (.s 81 (.nc (.t 80))), (.s 82 (.fa (.t 81) 0)), (.s 83 (.ld false none (.t 82))), (.s 84 (.ia 4 (.t 83) (.c (.int .i64 0)))), (.s 85 (.fa (.t 84) 2)), (.s 86 (.ld false (some 2) (.t 85))), (.s 87 (.cl (.c (.func x_tree_reader_fail [] [])) [(.t 79), (.c (.int .i64 130)), (.t 86)]))])))))))))) 
  (.seq (.r [(.s 4 (.mv false (.c (.vec true []))))]) .ret))))))) [(.t 4)])
def l_tree_quoted_0 : CC :=
  
  (.seq (.r [(.s 10 (.bo .lss 0 (.t 9) (.t 8)))]) 
  (.seq (.cond (.t 10) .skip (.exit 0)) 
  (.seq (.block 1 
  (.seq (.r [(.s 11 (.ia 1 (.t 7) (.t 9))), (.s 12 (.ld false none (.t 11))), (.s 5 (.mv true (.t 12)))]) 
  (.seq (.r [(.s 13 (.mv false (.t 5))), (.s 14 (.bo .lss 0 (.t 13) (.c (.int .u8 32)))), (.s 15 (.mv true (.t 14))), (.g 15 false 16 (.mv false (.t 5))), (.g 15 false 17 (.bo .gtr 0 (.t 16) (.c (.int .u8 126)))), (.s 18 (.pk (.t 15) (.c (.bool true)) (.t 17))), (.s 19 (.mv true (.t 18))), (.g 19 false 20 (.mv false (.t 5))), (.g 19 false 21 (.bo .eql 0 (.t 20) (.c (.int .u8 34)))), (.s 22 (.pk (.t 19) (.c (.bool true)) (.t 21)))]) (.cond (.t 22) 
  (.seq (.r [(.s 2 (.mv false (.c (.str [])))), (.s 3 (.mv false (.c (.bool false))))]) .ret) .skip)))) (.r [(.s 23 (.bo .add 0 (.t 9) (.c (.int .i64 1)))), (.s 9 (.mv true (.t 23)))]))))
def c_tree_quoted (x_strings_ContainsAny x_strings_Contains : Nat) : CF :=
  (.mk 38 
  (.seq (.r [(.s 2 (.mv false (.c (.str [])))), (.s 3 (.mv false (.c (.bool false))))]) 
  (.seq 
  (.seq (.r [(.s 6 (.mv false (.t 0))), (.s 7 (.cb (.t 6))), (.s 8 (.le true (.t 7))), (.s 9 (.mv false (.c (.int .i64 0))))]) (.block 0 (.loop l_tree_quoted_0))) 
  (.seq 
  (.seq (.r [(.s 24 (.mv false (.t 0))), (.s 25 (.bo .eql 0 (.t 24) (.c (.str [])))), (.s 26 (.mv true (.t 25))), (.g 26 false 27 (.mv false (.t 0))), (.g 26 false 28 (.cl (.c (.func x_strings_ContainsAny [] [])) [(.t 27), (.c (.str [32, 123, 125, 59, 91, 93, 35]))])), (.s 29 (.pk (.t 26) (.c (.bool true)) (.t 28))), (.s 30 (.mv true (.t 29))), (.g 30 false 31 (.mv false (.t 0))), (.g 30 false 32 (.cl (.c (.func x_strings_Contains [] [])) [(.t 31), (.c (.str [47, 42]))])), (.s 33 (.pk (.t 30) (.c (.bool true)) (.t 32)))]) (.cond (.t 33) 
  (.seq (.r [(.s 34 (.mv false (.t 0))), (.s 35 (.bo .add 0 (.c (.str [34])) (.t 34))), (.s 36 (.bo .add 0 (.t 35) (.c (.str [34])))), (.s 2 (.mv true (.t 36))), (.s 3 (.mv false (.c (.bool true))))]) .ret) .skip)) 
  (.seq (.r [(.s 37 (.mv false (.t 0))), (.s 2 (.mv true (.t 37))), (.s 3 (.mv false (.c (.bool true))))]) .ret)))) [(.t 2), (.t 3)])
def c_slices_Clone_string : CF :=
  (.mk 8 
  (.seq (.r [(.s 2 (.mv false (.c (.vec true []))))]) 
  (.seq 
  (.seq (.r [(.s 3 (.mv false (.t 0))), (.s 4 (.bo .eql 0 (.t 3) (.c (.vec true []))))]) (.cond (.t 4) 
  (.seq (.r [(.s 2 (.mv false (.c (.vec true []))))]) .ret) .skip)) 
  (.seq (.r [(.s 5 (.bs false 0 1 [(.str [])] [])), (.s 6 (.mv false (.t 0))), (.s 7 (.ap false 1 16 (.t 5) (.t 6))), (.s 2 (.mv true (.t 7)))]) .ret))) [(.t 2)])
def c_slices_Clone_api_Pos : CF :=
  (.mk 8 
  (.seq (.r [(.s 2 (.mv false (.c (.vec true []))))]) 
  (.seq 
  (.seq (.r [(.s 3 (.mv false (.t 0))), (.s 4 (.bo .eql 0 (.t 3) (.c (.vec true []))))]) (.cond (.t 4) 
  (.seq (.r [(.s 2 (.mv false (.c (.vec true []))))]) .ret) .skip)) 
  (.seq (.r [(.s 5 (.bs false 0 2 [(.int .i64 0), (.int .i64 0)] [])), (.s 6 (.mv false (.t 0))), (.s 7 (.ap false 2 16 (.t 5) (.t 6))), (.s 2 (.mv true (.t 7)))]) .ret))) [(.t 2)])
def l_lex_reader_take_0 : CC :=
  
  (.seq (.r [(.s 24 (.bo .lss 0 (.t 23) (.t 22)))]) 
  (.seq (.cond (.t 24) .skip (.exit 0)) 
  (.seq (.block 1 
  (.seq (.r [(.s 25 (.mv false (.t 23))), (.s 6 (.mv true (.t 25)))]) 
  (.seq (.r [(.s 26 (.mv false (.t 0))), (.s 27 (.nc (.t 26))), (.s 28 (.fa (.t 27) 1)), (.s 29 (.fa (.t 28) 1)), (.s 30 (.ld false none (.t 29))), (.s 31 (.bo .add 0 (.t 30) (.c (.int .i64 1)))), (.s 32 (.nc (.t 26))), (.s 33 (.fa (.t 32) 1)), (.s 34 (.fa (.t 33) 1)), (.n (.st true 1 (.t 34) (.t 31)))]) 
  (.seq (.r [(.s 35 (.mv false (.t 5))), (.s 36 (.mv false (.t 6))), (.s 37 (.iS (.t 35) (.t 36))), (.s 38 (.bo .eql 0 (.t 37) (.c (.int .u8 10))))]) (.cond (.t 38) (.r [(.s 39 (.mv false (.t 0))), (.s 40 (.mv false (.t 0))), (.s 41 (.nc (.t 40))), (.s 42 (.fa (.t 41) 1)), (.s 43 (.fa (.t 42) 0)), (.s 44 (.ld false none (.t 43))), (.s 45 (.bo .add 0 (.t 44) (.c (.int .i64 1)))), (.s 46 (.bd true [(.int .i64 0), (.int .i64 0)] [(0, (1, (.t 45))), (1, (1, (.c (.int .i64 1))))])), (.s 47 (.nc (.t 39))), (.s 48 (.fa (.t 47) 1)), (.n (.st true 2 (.t 48) (.t 46)))]) .skip))))) (.r [(.s 49 (.bo .add 0 (.t 23) (.c (.int .i64 1)))), (.s 23 (.mv true (.t 49)))]))))
def c_lex_reader_take : CF :=
  (.mk 51 
  (.seq (.r [(.s 4 (.mv false (.c (.str []))))]) 
  (.seq (.r [(.s 7 (.mv false (.t 0))), (.s 8 (.nc (.t 7))), (.s 9 (.fa (.t 8) 0)), (.s 10 (.ld false none (.t 9))), (.s 11 (.mv false (.t 1))), (.s 12 (.sS (.t 10) none (some (.t 11)))), (.s 5 (.mv true (.t 12)))]) 
  (.seq (.r [(.s 13 (.mv false (.t 0))), (.s 14 (.mv false (.t 0))), (.s 15 (.nc (.t 14))), (.s 16 (.fa (.t 15) 0)), (.s 17 (.ld false none (.t 16))), (.s 18 (.mv false (.t 1))), (.s 19 (.sS (.t 17) (some (.t 18)) none)), (.s 20 (.nc (.t 13))), (.s 21 (.fa (.t 20) 0)), (.n (.st true 1 (.t 21) (.t 19)))]) 
  (.seq 
  (.seq (.r [(.s 22 (.mv false (.t 1))), (.s 23 (.mv false (.c (.int .i64 0))))]) (.block 0 (.loop l_lex_reader_take_0))) 
  (.seq (.r [(.s 50 (.mv false (.t 5))), (.s 4 (.mv true (.t 50)))]) .ret))))) [(.t 4)])
def l_lex_reader_until_0 : CC :=
  
  (.seq 
  (.seq (.r [(.s 6 (.mv false (.t 5))), (.s 7 (.mv false (.t 0))), (.s 8 (.nc (.t 7))), (.s 9 (.fa (.t 8) 0)), (.s 10 (.ld false none (.t 9))), (.s 11 (.le false (.t 10))), (.s 12 (.bo .lss 0 (.t 6) (.t 11))), (.s 13 (.mv true (.t 12))), (.g 13 true 14 (.mv false (.t 1))), (.g 13 true 15 (.mv false (.t 5))), (.g 13 true 16 (.cl (.t 14) [(.t 15)])), (.g 13 true 17 (.uo .not (.t 16))), (.s 18 (.pk (.t 13) (.t 17) (.c (.bool false))))]) (.cond (.t 18) .skip (.exit 0))) (.block 1 (.r [(.s 19 (.mv false (.t 5))), (.s 20 (.bo .add 0 (.t 19) (.c (.int .i64 1)))), (.s 5 (.mv true (.t 20)))])))
def c_lex_reader_until : CF :=
  (.mk 22 
  (.seq (.r [(.s 4 (.mv false (.c (.int .i64 0))))]) 
  (.seq (.r [(.s 5 (.mv false (.c (.int .i64 0))))]) 
  (.seq (.block 0 (.loop l_lex_reader_until_0)) 
  (.seq (.r [(.s 21 (.mv false (.t 5))), (.s 4 (.mv true (.t 21)))]) .ret)))) [(.t 4)])
def c_lex_reader_token_1 : CF :=
  (.mk 11 
  (.seq (.r [(.s 3 (.mv false (.c (.bool false))))]) 
  (.seq (.r [(.s 4 (.ld false none (.t 1))), (.s 5 (.nc (.t 4))), (.s 6 (.fa (.t 5) 0)), (.s 7 (.ld false none (.t 6))), (.s 8 (.mv false (.t 0))), (.s 9 (.iS (.t 7) (.t 8))), (.s 10 (.bo .eql 0 (.t 9) (.c (.int .u8 10)))), (.s 3 (.mv true (.t 10)))]) .ret)) [(.t 3)])
def c_lex_reader_ends (x_strings_IndexByte x_strings_HasPrefix : Nat) : CF :=
  (.mk 22 
  (.seq (.r [(.s 4 (.mv false (.c (.bool false))))]) 
  (.seq (.r [(.s 5 (.mv false (.t 0))), (.s 6 (.nc (.t 5))), (.s 7 (.fa (.t 6) 0)), (.s 8 (.ld false none (.t 7))), (.s 9 (.mv false (.t 1))), (.s 10 (.iS (.t 8) (.t 9))), (.s 11 (.cl (.c (.func x_strings_IndexByte [] [])) [(.c (.str [32, 10, 123, 125, 59, 91, 93, 34, 35])), (.t 10)])), (.s 12 (.bo .geq 0 (.t 11) (.c (.int .i64 0)))), (.s 13 (.mv true (.t 12))), (.g 13 false 14 (.mv false (.t 0))), (.g 13 false 15 (.nc (.t 14))), (.g 13 false 16 (.fa (.t 15) 0)), (.g 13 false 17 (.ld false none (.t 16))), (.g 13 false 18 (.mv false (.t 1))), (.g 13 false 19 (.sS (.t 17) (some (.t 18)) none)), (.g 13 false 20 (.cl (.c (.func x_strings_HasPrefix [] [])) [(.t 19), (.c (.str [47, 42]))])), (.s 21 (.pk (.t 13) (.c (.bool true)) (.t 20))), (.s 4 (.mv true (.t 21)))]) .ret)) [(.t 4)])
def l_tree_reader_words_0 (x_tree_reader_next x_tree_reader_off : Nat) : CC :=
  
  (.seq 
  (.seq (.r [(.s 4 (.mv false (.t 0))), (.s 5 (.cl (.c (.func x_tree_reader_next [] [])) [(.t 4)])), (.s 6 (.bo .eql 0 (.t 5) (.c (.int .u8 1))))]) (.cond (.t 6) .skip (.exit 0))) (.block 1 
  (.seq (.r [(.s 7 (.mv false (.t 0))), (.s 8 (.cl (.c (.func x_tree_reader_off [] [])) [(.t 7)])), (.s 3 (.al [(.int .u8 0), (.str []), (.int .i64 0), (.int .i64 0)])), (.n (.st true 4 (.t 3) (.t 8)))]) (.r [(.s 9 (.fa (.t 2) 0)), (.s 10 (.ld true none (.t 9))), (.s 11 (.fa (.t 3) 1)), (.s 12 (.ld false none (.t 11))), (.s 13 (.bs false 1 1 [(.str [])] [(0, (.t 12))])), (.s 14 (.ap false 1 16 (.t 10) (.t 13))), (.s 15 (.fa (.t 2) 1)), (.s 16 (.ld true none (.t 15))), (.s 17 (.fa (.t 3) 2)), (.s 18 (.ld false (some 2) (.t 17))), (.s 19 (.bs false 1 2 [(.int .i64 0), (.int .i64 0)] [(0, (.t 18))])), (.s 20 (.ap false 2 16 (.t 16) (.t 19))), (.s 21 (.fa (.t 2) 0)), (.n (.st true 1 (.t 21) (.t 14))), (.s 22 (.fa (.t 2) 1)), (.n (.st true 1 (.t 22) (.t 20)))]))))
def c_tree_reader_words (x_tree_reader_next x_tree_reader_off : Nat) : CF :=
  (.mk 24 
  (.seq (.r [(.s 2 (.al [(.vec true []), (.vec true []), (.bool false), (.vec true [])]))]) 
  (.seq (.block 0 (.loop (l_tree_reader_words_0 x_tree_reader_next x_tree_reader_off))) 
  (.seq (.r [(.s 23 (.ld false (some 4) (.t 2))), (.n (.st true 4 (.t 2) (.t 23)))]) .ret))) [(.c 2 (some 4))])
end Go.Vw.Wm
end
section
/- The functions of this seat. -/
namespace Go.Vw.Wm
open Go Go.RowKit Go.Abs Go.Vw
def KS : Knobs := ⟨fun _ _ => false, fun f => [22, 27, 28, 31, 33, 41, 44, 52, 53, 55, 56, 57, 58, 67, 68, 72].contains f, fun f => !([15, 26, 49, 50, 51, 65, 69, 70, 71, 74, 75].contains f), fun _ => true⟩
theorem h_law14_TreeBack : Has Go.Proofs.Try.prog KS 5 false (c_law14_TreeBack 15 17 16 8 7 18 19 13) := ⟨by kernel_rfl, rfl, rfl, rfl⟩
theorem h_tree_Parse : Has Go.Proofs.Try.prog KS 7 false (c_tree_Parse 23 24) := ⟨by kernel_rfl, rfl, rfl, rfl⟩
theorem h_tree_Print : Has Go.Proofs.Try.prog KS 8 false (c_tree_Print 25 26 65 5) := ⟨by kernel_rfl, rfl, rfl, rfl⟩
theorem h_law14_rows : Has Go.Proofs.Try.prog KS 13 false (c_law14_rows 13) := ⟨by kernel_rfl, rfl, rfl, rfl⟩
theorem h_law14_nodes : Has Go.Proofs.Try.prog KS 16 false (c_law14_nodes 16) := ⟨by kernel_rfl, rfl, rfl, rfl⟩
theorem h_law14_good : Has Go.Proofs.Try.prog KS 17 false c_law14_good := ⟨by kernel_rfl, rfl, rfl, rfl⟩
theorem h_tree_Same : Has Go.Proofs.Try.prog KS 18 false (c_tree_Same 37 38) := ⟨by kernel_rfl, rfl, rfl, rfl⟩
theorem h_law14_wide : Has Go.Proofs.Try.prog KS 19 false c_law14_wide := ⟨by kernel_rfl, rfl, rfl, rfl⟩
theorem h_lex_Tokens : Has Go.Proofs.Try.prog KS 23 false (c_lex_Tokens 42 43) := ⟨by kernel_rfl, rfl, rfl, rfl⟩
theorem h_tree_reader_list : Has Go.Proofs.Try.prog KS 24 false (c_tree_reader_list 44 45 46 47) := ⟨by kernel_rfl, rfl, rfl, rfl⟩
theorem h_tree_write : Has Go.Proofs.Try.prog KS 25 false (c_tree_write 48 49 51 50 25) := ⟨by kernel_rfl, rfl, rfl, rfl⟩
theorem h_slices_Equal_string : Has Go.Proofs.Try.prog KS 27 true c_slices_Equal_string := ⟨by kernel_rfl, rfl, rfl, rfl⟩
theorem h_slices_EqualFunc_tree_Node : Has Go.Proofs.Try.prog KS 37 false c_slices_EqualFunc_tree_Node := ⟨by kernel_rfl, rfl, rfl, rfl⟩
theorem h_tree_Same_1 : Has Go.Proofs.Try.prog KS 38 false (c_tree_Same_1 27 18) := ⟨by kernel_rfl, rfl, rfl, rfl⟩
theorem h_lex_check : Has Go.Proofs.Try.prog KS 42 false c_lex_check := ⟨by kernel_rfl, rfl, rfl, rfl⟩
theorem h_lex_reader_token : Has Go.Proofs.Try.prog KS 43 false (c_lex_reader_token 65 66 67 69 70 71 68 72) := ⟨by kernel_rfl, rfl, rfl, rfl⟩
theorem h_tree_reader_next : Has Go.Proofs.Try.prog KS 44 true c_tree_reader_next := ⟨by kernel_rfl, rfl, rfl, rfl⟩
theorem h_tree_reader_fail : Has Go.Proofs.Try.prog KS 45 false c_tree_reader_fail := ⟨by kernel_rfl, rfl, rfl, rfl⟩
theorem h_tree_reader_off : Has Go.Proofs.Try.prog KS 46 false c_tree_reader_off := ⟨by kernel_rfl, rfl, rfl, rfl⟩
theorem h_tree_reader_statement : Has Go.Proofs.Try.prog KS 47 false (c_tree_reader_statement 73 44 46 52 53 45 24) := ⟨by kernel_rfl, rfl, rfl, rfl⟩
theorem h_tree_quoted : Has Go.Proofs.Try.prog KS 48 false (c_tree_quoted 74 75) := ⟨by kernel_rfl, rfl, rfl, rfl⟩
theorem h_slices_Clone_string : Has Go.Proofs.Try.prog KS 52 true c_slices_Clone_string := ⟨by kernel_rfl, rfl, rfl, rfl⟩
theorem h_slices_Clone_api_Pos : Has Go.Proofs.Try.prog KS 53 true c_slices_Clone_api_Pos := ⟨by kernel_rfl, rfl, rfl, rfl⟩
theorem h_lex_reader_take : Has Go.Proofs.Try.prog KS 66 false c_lex_reader_take := ⟨by kernel_rfl, rfl, rfl, rfl⟩
theorem h_lex_reader_until : Has Go.Proofs.Try.prog KS 67 true c_lex_reader_until := ⟨by kernel_rfl, rfl, rfl, rfl⟩
theorem h_lex_reader_token_1 : Has Go.Proofs.Try.prog KS 68 true c_lex_reader_token_1 := ⟨by kernel_rfl, rfl, rfl, rfl⟩
theorem h_lex_reader_ends : Has Go.Proofs.Try.prog KS 72 true (c_lex_reader_ends 65 69) := ⟨by kernel_rfl, rfl, rfl, rfl⟩
theorem h_tree_reader_words : Has Go.Proofs.Try.prog KS 73 false (c_tree_reader_words 44 46) := ⟨by kernel_rfl, rfl, rfl, rfl⟩
end Go.Vw.Wm
end
section
/- Contracts of library functions, for the first evaluator. -/
namespace Go.Abs
open Go Go.RowKit
section
variable {P : Program} {w0 w w' : World} {L : Nat} {m : M} {H : AH}
/-- New blocks of the world, of which nothing is asked. -/
theorem R.later (h : R w0 L m H w) (hb : Below w.heap.size w w') : Step m H w m H w' ∧ R w0 L m H w' := by
  exact ⟨Step.world hb, h.below' hb⟩
theorem ext_later {f : Nat} {us : Array Value} {u : Value} {v : AV} (hR : R w0 L m H w) (hv : VR m v u) (hc : Calls P f us w fun e w' => e = .returned u ∧ Below w.heap.size w w') : Calls P f us w fun e w' => ∃ u m', e = .returned u ∧ Step m H w m' H w' ∧ VR m' v u ∧ R w0 L m' H w' :=
  hc.mono (fun e w' ⟨h1, h2⟩ => ⟨u, m, h1, (hR.later h2).1, hv, (hR.later h2).2⟩)
theorem ext_same {f : Nat} {us : Array Value} {u : Value} {v : AV} (hR : R w0 L m H w) (hv : VR m v u) (hc : Calls P f us w fun e w' => e = .returned u ∧ w' = w) : Calls P f us w fun e w' => ∃ u m', e = .returned u ∧ Step m H w m' H w' ∧ VR m' v u ∧ R w0 L m' H w' :=
  ext_later hR hv (hc.mono (fun e w' ⟨h1, h2⟩ => ⟨h1, by rw [h2]; exact Below.refl _ _⟩))
end
end Go.Abs
end
section
/- A builder's methods, for the first evaluator. -/
namespace Go.Abs
open Go Go.RowKit
set_option linter.unusedVariables false

/-- append, as it runs. -/
theorem wpList_append_eq {P : Program} {w : World} {ops : Array Oper} {rest : List Oper} {o : Oper} {a : Act} {Q : Exit → Act → World → Prop} (hgd : o.guard = none) (sl x : Operand) (t u : TypeId)
    (ho : o.op = .call { callee := .builtin .append, args := #[sl, x], argTypes := #[t, u] }) (us ux : Value) (hs : a.eval sl = us) (hx : a.eval x = ux) (v' : Value) (w' : World)
    (hr : (Builtin.append_ #[t, u] o.type #[us, ux]).run P w = .ok v' w') (h : wpList P ops Q rest (a.put o.dst v') w') : wpList P ops Q (o :: rest) a w := by
  refine wpList_plain hgd fun K hK => ?_
  unfold Oper.wp execOp
  simp only [ho, resolve, invoke, builtin, Sem.run_bind, Sem.run_pure, Result.andThen_ok, List.map_toArray, List.map_cons, List.map_nil, hs, hx, hr]
  exact hK _ _ h

section
variable {P : Program} {w0 w : World} {L : Nat} {m : M} {H : AH}

/-- A builder's two cells in the world. -/
theorem R.builder (h : R w0 L m H w) {b : Nat} {ad sl : AV} {t : TypeId} (hb : H.get b = some (.cells [ad, sl] true)) (ht : H.ty.get b = some (t, some 2)) :
    ∃ g u0 u1, m b = some (g, 0, 2) ∧ w.shape? g = some (t, 2) ∧ w.cell? ⟨g, 0, none⟩ = some u0 ∧ VR m ad u0 ∧ w.cell? ⟨g, 1, none⟩ = some u1 ∧ VR m sl u1 ∧ w.frozen? ⟨g, 0, none⟩ = false ∧ w.frozen? ⟨g, 1, none⟩ = false := by
  obtain ⟨q, q1, q2, q3, q4⟩ := h.ty b _ ht
  obtain ⟨q', q1', h1, h2, h3⟩ := h.dom b _ hb
  rw [q1] at q1'
  simp only [Option.some.injEq] at q1'
  subst q1'
  obtain ⟨g, o, n⟩ := q
  have q5 : n = 2 := q4 2 rfl
  clear q4
  simp only at q2 q3 h1 h2
  subst q2; subst q5
  obtain ⟨_, u0, k1, k2⟩ := h2 0 ad rfl
  obtain ⟨_, u1, k3, k4⟩ := h2 1 sl rfl
  obtain ⟨_, cs, t', fr, e1, e2, e3⟩ := h3 rfl
  simp only at e2 e3
  exact ⟨g, u0, u1, q1, q3, k1, k2, k3, k4, e3 0 (by omega), e3 1 (by omega)⟩

/-- What is asked of copyCheck. -/
structure CopyW (P : Program) (tB : TypeId) (fc : Nat) : Prop where
  fresh : ∀ (b : Nat) (w : World), w.cell? ⟨b, 0, none⟩ = some (.pointer none) → w.shape? b = some (tB, 2) → w.frozen? ⟨b, 0, none⟩ = false →
    Calls P fc #[.pointer (some ⟨b, 0, none⟩)] w fun e w' => e = .returned (.tuple #[]) ∧ w' = w.setCell ⟨b, 0, none⟩ (.pointer (some ⟨b, 0, none⟩))
  used : ∀ (b : Nat) (w : World), w.cell? ⟨b, 0, none⟩ = some (.pointer (some ⟨b, 0, none⟩)) → Calls P fc #[.pointer (some ⟨b, 0, none⟩)] w fun e w' => e = .returned (.tuple #[]) ∧ w' = w
/-- How WriteString goes. -/
def WriteW (P : Program) (fw fc : Nat) (tS tStr : TypeId) : Prop := ∀ (g : Nat) (s : ByteArray) (w : World) (C Fin : World → Prop),
  (Calls P fc #[.pointer (some ⟨g, 0, none⟩)] w fun e w' => e = .returned (.tuple #[]) ∧ C w') →
  (∀ w1, C w1 → ∃ x1 ao n' cap w2 dv, w1.cell? ⟨g, 1, none⟩ = some x1 ∧ (Builtin.append_ #[tS, tStr] tS #[x1, .string s]).run P w1 = .ok (.slice ao n' cap) w2 ∧ w2.cell? ⟨g, 1, none⟩ = some dv ∧ w2.frozen? ⟨g, 1, none⟩ = false ∧ Fin (w2.setCell ⟨g, 1, none⟩ (.slice ao n' cap))) →
  Calls P fw #[.pointer (some ⟨g, 0, none⟩), .string s] w fun e w' => e = .returned (.tuple #[.int .i64 s.size, .nilIface]) ∧ Fin w'

/-- What copyCheck leaves. -/
def eCopy (tB : TypeId) (H : AH) (b : Nat) : Option AH :=
  match H.get b with
  | some (.cells [ad, sl] true) => if H.ty.get b = some (tB, some 2) then
      match ad with
      | .nilp => some (H.wput b (.cells [.ptr b 0, sl] true))
      | .ptr b' 0 => if b' = b then some H else none
      | _ => none
    else none
  | _ => none
theorem eCopy_does {tB : TypeId} {fc : Nat} (hC : CopyW P tB fc) {b : Nat} {H1 : AH} (h : R w0 L m H w) (he : eCopy tB H b = some H1) {u : Value} (hu : VR m (.ptr b 0) u) :
    H1.next = H.next ∧ Calls P fc #[u] w fun e w' => e = .returned (.tuple #[]) ∧ Step m H w m H1 w' ∧ R w0 L m H1 w' ∧ ∃ sl, H1.get b = some (.cells [.ptr b 0, sl] true) ∧ H1.ty.get b = some (tB, some 2) := by
  unfold eCopy at he
  split at he
  · rename_i ad sl hb
    split at he
    · rename_i ht
      obtain ⟨g, u0, u1, hm, hsh, c0, v0, c1, v1, f0, f1⟩ := h.builder hb ht
      have hu' : u = .pointer (some ⟨g, 0, none⟩) := by
        cases hu with
        | ptr _ _ g' o' n' hm' =>
          rw [hm] at hm'
          simp only [Option.some.injEq, Prod.mk.injEq] at hm'
          obtain ⟨rfl, rfl, rfl⟩ := hm'
          rfl
      subst hu'
      split at he
      · simp only [Option.some.injEq] at he
        subst he
        cases v0
        refine ⟨rfl, (hC.fresh g w c0 hsh f0).mono ?_⟩
        rintro e w' ⟨rfl, rfl⟩
        have hc : VRs m [.ptr b 0] [.pointer (some ⟨g, 0, none⟩)] := .cons _ _ _ _ (by have := VR.ptr (m := m) b 0 g 0 2 hm; simpa using this) .nil
        obtain ⟨k1, k2, _⟩ := h.store hb hm (off := 0) (c := [.ptr b 0]) (by simp) hc rfl
        have hset : w.setCells g (0 + 0) [.pointer (some ⟨g, 0, none⟩)] = w.setCell ⟨g, 0, none⟩ (.pointer (some ⟨g, 0, none⟩)) := rfl
        rw [hset] at k1 k2
        have hob : H.oldAt b = false := by
          cases e : H.oldAt b with
          | false => rfl
          | true => have := h.old b _ hb e; cases this
        exact ⟨rfl, k2, k1, sl, by rw [AH.get_wput H hb hob, if_pos rfl], ht⟩
      · rename_i b'
        split at he
        · rename_i e
          subst e
          simp only [Option.some.injEq] at he
          subst he
          have e0 : u0 = .pointer (some ⟨g, 0, none⟩) := by
            cases v0 with
            | ptr _ _ g' o' n' hm' =>
              rw [hm] at hm'
              simp only [Option.some.injEq, Prod.mk.injEq] at hm'
              obtain ⟨rfl, rfl, rfl⟩ := hm'
              rfl
          subst e0
          refine ⟨rfl, (hC.used g w c0).mono ?_⟩
          rintro e w' ⟨rfl, rfl⟩
          exact ⟨rfl, Step.refl _ _ _, h, sl, hb, ht⟩
        · cases he
      · cases he
    · cases he
  · cases he

def isSl : AV → Bool
  | .nils | .slice .. => true
  | _ => false
def eWriteString (P : Program) (tB uB : TypeId) : List AV → AH → Option (AV × AH)
  | [.ptr b 0, .str s], H => match eCopy tB H b with
    | some H1 => match H1.get b with
      | some (.cells [_, sl] true) => match appendT P H1 uB sl (.str s) with
        | some (v, H2) => match H2.get b with
          | some (.cells [a2, sl2] true) => if isSl v = true then some (.tuple [.int .i64 s.length, .nili], H2.wput b (.cells [a2, v] true)) else none
          | _ => none
        | none => none
      | _ => none
    | none => none
  | _, _ => none
theorem eWriteString_next {tB uB : TypeId} {args : List AV} {v : AV} {H' : AH} (he : eWriteString P tB uB args H = some (v, H')) : H.next ≤ H'.next := by
  unfold eWriteString at he
  split at he
  · split at he
    · rename_i H1 hcp
      have h1 : H1.next = H.next := by
        unfold eCopy at hcp
        repeat' split at hcp
        all_goals first
          | (cases hcp; done)
          | (simp only [Option.some.injEq] at hcp; subst hcp; rfl)
      split at he
      · split at he
        · rename_i v2 H2 happ
          have h2 := appendT_mono happ
          split at he
          · split at he
            · simp only [Option.some.injEq, Prod.mk.injEq] at he
              obtain ⟨_, rfl⟩ := he
              show H.next ≤ H2.next
              rw [← h1]
              exact h2
            · cases he
          · cases he
        · cases he
      · cases he
    · cases he
  · cases he
theorem eWriteString_does {tB uB tS tStr : TypeId} {fw fc : Nat} (hC : CopyW P tB fc) (hW : WriteW P fw fc tS tStr) (hS : P.underlying tS = some (.slice uB)) (hT : P.underlying tStr = some .string) {b : Nat} {s : List UInt8} {v : AV} {H' : AH} (h : R w0 L m H w) (he : eWriteString P tB uB [.ptr b 0, .str s] H = some (v, H')) (hL : H'.next ≤ L) {u : Value} (hu : VR m (.ptr b 0) u) :
    H.next ≤ H'.next ∧ Calls P fw #[u, .string ⟨s.toArray⟩] w fun e w' => ∃ u' m', e = .returned u' ∧ Step m H w m' H' w' ∧ VR m' v u' ∧ R w0 L m' H' w' := by
  simp only [eWriteString] at he
  split at he
  · rename_i H1 hcp
    obtain ⟨hn1, hcc⟩ := eCopy_does (w0 := w0) hC h hcp hu
    split at he
    · rename_i a1 sl hb1
      split at he
      · rename_i v2 H2 happ
        split at he
        · rename_i a2 sl2 hb2
          split at he
          · rename_i hcell
            simp only [Option.some.injEq, Prod.mk.injEq] at he
            obtain ⟨rfl, rfl⟩ := he
            have hL2 : H2.next ≤ L := hL
            have hmono : H1.next ≤ H2.next := by
              have ha := happ
              unfold appendT at ha
              simp only [Option.map_eq_some_iff, Prod.mk.injEq] at ha
              obtain ⟨⟨v', H3⟩, ha, rfl, rfl⟩ := ha
              rw [tagS_next]
              exact appendA_mono ha
            refine ⟨by show _ ≤ H2.next; omega, ?_⟩
            obtain ⟨g, hm0, hu0⟩ : ∃ g, (∃ n, m b = some (g, 0, n)) ∧ u = .pointer (some ⟨g, 0, none⟩) := by
              unfold eCopy at hcp
              split at hcp
              · rename_i ad sl0 hb0
                split at hcp
                · rename_i ht0
                  obtain ⟨g, _, _, hm, _⟩ := h.builder hb0 ht0
                  refine ⟨g, ⟨2, hm⟩, ?_⟩
                  cases hu with
                  | ptr _ _ g' o' n' hm' =>
                    rw [hm] at hm'
                    simp only [Option.some.injEq, Prod.mk.injEq] at hm'
                    obtain ⟨rfl, rfl, rfl⟩ := hm'
                    rfl
                · cases hcp
              · cases hcp
            subst hu0
            obtain ⟨n0, hm0⟩ := hm0
            refine (hW g ⟨s.toArray⟩ w (fun w1 => Step m H w m H1 w1 ∧ R w0 L m H1 w1 ∧ ∃ sl, H1.get b = some (.cells [.ptr b 0, sl] true) ∧ H1.ty.get b = some (tB, some 2))
              (fun w' => ∃ m', Step m H w m' (H2.wput b (.cells [a2, v2] true)) w' ∧ R w0 L m' (H2.wput b (.cells [a2, v2] true)) w') hcc ?_).mono ?_
            · rintro w1 ⟨hs1, hR1, sl', hb1', ht1⟩
              rw [hb1] at hb1'
              simp only [Option.some.injEq, AObj.cells.injEq, List.cons.injEq, and_true] at hb1'
              obtain ⟨rfl, rfl⟩ := hb1'
              obtain ⟨g1, x0, x1, hm1, _, c0, _, c1, vx1, _⟩ := hR1.builder hb1 ht1
              rw [hm0] at hm1
              simp only [Option.some.injEq, Prod.mk.injEq, true_and] at hm1
              obtain ⟨rfl, rfl⟩ := hm1
              obtain ⟨v2', w2, m2, hrun, hs2, hv2, hR2⟩ := appendT_does (u := tStr) hR1 hL2 hS hT (.inr rfl) vx1 (.str s) happ tS
              have hm2 := hs2.sub _ _ hm0
              have hc2 : VRs m2 [v2] [v2'] := .cons _ _ _ _ hv2 .nil
              obtain ⟨k1, k2, k3, k4⟩ := hR2.store hb2 hm2 (off := 1) (c := [v2]) (by simp) hc2 (by cases v2 <;> first | rfl | cases hcell)
              have hset : w2.setCells g (0 + 1) [v2'] = w2.setCell ⟨g, 1, none⟩ v2' := rfl
              rw [hset] at k1 k2
              have d1 := k3 0 (by simp)
              have f1 := k4 0 (by simp)
              simp only [Nat.zero_add, Nat.add_zero] at d1 f1
              obtain ⟨dv, d1⟩ := Option.isSome_iff_exists.1 d1
              obtain ⟨ao, n', cap, rfl⟩ : ∃ ao n' cap, v2' = .slice ao n' cap := by
                cases v2 <;> first | (cases hcell; done) | (cases hv2; exact ⟨_, _, _, rfl⟩)
              exact ⟨x1, ao, n', cap, w2, dv, c1, hrun, d1, f1, m2, (hs1.trans hs2).trans k2, k1⟩
            · rintro e w' ⟨rfl, m', k1, k2⟩
              exact ⟨_, m', rfl, k1, .tuple _ _ (.cons _ _ _ _ (.int _ _) (.cons _ _ _ _ .nili .nil)), k2⟩
          · cases he
        · cases he
      · cases he
    · cases he
  · cases he
end
end Go.Abs
end
section
/- A builder's text. -/
namespace Go.Abs
open Go Go.RowKit
set_option linter.unusedVariables false

theorem freeze_heap (w : World) (p : Addr) (n k : Nat) (h : k ≠ p.block) : (w.freeze p n).heap[k]? = w.heap[k]? := by
  unfold World.freeze
  split
  · rfl
  · simp only [Array.getElem?_modify]
    rw [if_neg (fun e => h e.symm)]
theorem freeze_cell (w : World) (p : Addr) (n : Nat) (q : Addr) : (w.freeze p n).cell? q = w.cell? q := by
  by_cases h : q.block = p.block
  · unfold World.cell?
    by_cases hn : n = 0
    · unfold World.freeze; rw [if_pos hn]
    · unfold World.freeze
      rw [if_neg hn]
      simp only [Array.getElem?_modify]
      rw [if_pos h.symm]
      cases w.heap[q.block]? with
      | none => rfl
      | some o => cases o <;> rfl
  · unfold World.cell?
    rw [freeze_heap w p n _ h]
theorem freeze_shape (w : World) (p : Addr) (n k : Nat) : (w.freeze p n).shape? k = w.shape? k := by
  by_cases h : k = p.block
  · unfold World.shape?
    by_cases hn : n = 0
    · unfold World.freeze; rw [if_pos hn]
    · unfold World.freeze
      rw [if_neg hn]
      simp only [Array.getElem?_modify]
      rw [if_pos h.symm]
      cases w.heap[k]? with
      | none => rfl
      | some o => cases o <;> rfl
  · exact shape_of_heap (freeze_heap w p n k h)
theorem freeze_size (w : World) (p : Addr) (n : Nat) : (w.freeze p n).heap.size = w.heap.size := by
  unfold World.freeze
  split <;> simp
theorem freeze_below (w : World) (p : Addr) (n B : Nat) {w1 : World} (hB : B ≤ p.block) (h : Below B w1 w) : Below B w1 (w.freeze p n) :=
  Lib.below_freeze h hB n
section
variable {P : Program} {w0 w : World} {L : Nat} {m : M} {H : AH}
/-- Nobody writes a block's cells any more. -/
theorem R.freeze (h : R w0 L m H w) {b : Nat} {vs : List AV} (hg : H.get b = some (.cells vs true)) {g o n : Nat} (hm : m b = some (g, o, n)) (x l : Nat) :
    R w0 L m (H.put b (some (.cells vs false))) (w.freeze ⟨g, x, none⟩ l) ∧ Step m H w m (H.put b (some (.cells vs false))) (w.freeze ⟨g, x, none⟩ l) := by
  obtain ⟨q, hq, h1, h2, h3⟩ := h.dom b _ hg
  rw [hm] at hq
  simp only [Option.some.injEq] at hq
  subst hq
  obtain ⟨hB, _⟩ := h3 rfl
  simp only at h1 h2 hB
  have hput := AH.get_put H hg (.cells vs false)
  have hob : H.oldAt b = false := by
    cases e : H.oldAt b with
    | false => rfl
    | true => have := h.old b _ hg e; cases this
  have hkin : ∀ j, (H.put b (some (.cells vs false))).kinAt j = H.kinAt j := fun j => AH.kinAt_put _ _ _ _ (fun _ => rfl)
  have hold : ∀ j, (H.put b (some (.cells vs false))).oldAt j = H.oldAt j := fun j => by
    rw [AH.oldAt_put]
    split
    · rename_i e; subst e; rfl
    · rfl
  have hsome : ∀ j y, (H.put b (some (.cells vs false))).get j = some y → (j = b ∧ y = .cells vs false) ∨ (j ≠ b ∧ H.get j = some y) := by
    intro j y hy
    rw [hput] at hy
    by_cases e : j = b
    · rw [if_pos e] at hy; simp only [Option.some.injEq] at hy; exact .inl ⟨e, hy.symm⟩
    · rw [if_neg e] at hy; exact .inr ⟨e, hy⟩
  refine ⟨⟨freeze_below w _ _ _ hB h.below, h.fresh, fun j hj => ?_, fun j q hq => by rw [freeze_size]; exact h.inb j q hq, fun j y hy => ?_, fun j j' y z q q' hy ho hz hne hq hq' => ?_, fun j y hy ho => ?_, h.tyS (Sub.refl m) (fun k _ => freeze_shape w _ _ k)⟩,
    ⟨Sub.refl m, Nat.le_refl _, fun _ hb _ => hb, fun k _ hn => freeze_heap w _ _ k (fun e => hn ⟨b, _, _, hg, rfl, hm, e.symm⟩), fun k _ ⟨j, y, q, e1, ho, e2, e3⟩ => ?_, fun k _ ⟨j, y, q, e1, e2, e3⟩ => ?_, by rw [freeze_size]; exact Nat.le_refl _, fun k _ => freeze_shape w _ _ k⟩⟩
  · have hj' : H.next ≤ j := hj
    cases e : (H.put b (some (.cells vs false))).get j with
    | none => rfl
    | some y =>
      rcases hsome j y e with ⟨rfl, _⟩ | ⟨_, k⟩
      · rw [h.bound _ hj'] at hg; cases hg
      · rw [h.bound _ hj'] at k; cases k
  · rcases hsome j y hy with ⟨rfl, rfl⟩ | ⟨hne, k⟩
    · exact ⟨_, hm, h1, fun i v hi => by rw [freeze_cell]; exact h2 i v hi, fun e => by cases e⟩
    · obtain ⟨q', hq', hor⟩ := h.dom j y k
      refine ⟨q', hq', ?_⟩
      rcases h.inj b j _ y _ q' hg rfl k (fun e => hne e.symm) hm hq' with g1 | ⟨_, _, _, vs', _, rfl, _⟩
      · exact hor.heap (freeze_heap w _ _ _ (fun e => g1 e.symm))
      · obtain ⟨o1, o2, _⟩ := hor
        exact ⟨o1, fun i v hi => by rw [freeze_cell]; exact o2 i v hi, fun e => by cases e⟩
  · rcases hsome j y hy with ⟨rfl, rfl⟩ | ⟨hjb, k⟩
    · cases ho
    · rcases hsome j' z hz with ⟨rfl, rfl⟩ | ⟨hjb', k'⟩
      · rcases h.inj j _ y _ q q' k ho hg hne hq hq' with g1 | ⟨_, _, _, _, _, e, _⟩
        · exact .inl g1
        · cases e
      · refine (h.inj j j' y z q q' k ho k' hne hq hq').imp_right (fun hs => ?_)
        unfold Sib at hs ⊢
        rw [hold, hkin, hkin]
        exact hs
  · rw [hold] at ho
    rcases hsome j y hy with ⟨rfl, rfl⟩ | ⟨_, k⟩
    · rfl
    · exact h.old j y k ho
  · rcases hsome j y e1 with ⟨rfl, rfl⟩ | ⟨_, k⟩
    · cases ho
    · exact ⟨j, y, q, k, ho, e2, e3⟩
  · rcases hsome j y e1 with ⟨rfl, rfl⟩ | ⟨_, k⟩
    · exact ⟨j, _, q, hg, e2, e3⟩
    · exact ⟨j, y, q, k, e2, e3⟩

def eString (tB uB : TypeId) : List AV → AH → Option (AV × AH)
  | [.ptr b 0], H => match H.get b with
    | some (.cells [_, sl] true) => if H.ty.get b = some (tB, some 2) then
        match sl with
        | .nils => some (.str [], H)
        | .slice b' 0 len none 1 => match H.get b' with
          | some (.cells vs true) => if len ≠ 0 ∧ len ≤ 140737488355328 ∧ H.ty.get b' = some (uB, none) then
              match (rd H b' 0 len).bind unbytes with
              | some s => some (.str s, H.put b' (some (.cells vs false)))
              | none => none
            else none
          | _ => none
        | _ => none
      else none
    | _ => none
  | _, _ => none
/-- How String goes. -/
structure StringW (P : Program) (uB : TypeId) (f : Nat) : Prop where
  nil : ∀ (b : Nat) (w : World), w.cell? ⟨b, 1, none⟩ = some (.slice none 0 0) → Calls P f #[.pointer (some ⟨b, 0, none⟩)] w fun e w' => e = .returned (.string ⟨#[]⟩) ∧ w' = w.drew
  some : ∀ (b g cap n : Nat) (l : List UInt8) (w : World), w.cell? ⟨b, 1, none⟩ = some (.slice (some ⟨g, 0, none⟩) l.length cap) → l ≠ [] → l.length ≤ cap → l.length ≤ n → l.length ≤ 140737488355328 → w.shape? g = some (uB, n) →
    (∀ j x, l[j]? = some x → w.cell? ⟨g, j, none⟩ = some (.int .u8 x.toNat)) →
    Calls P f #[.pointer (some ⟨b, 0, none⟩)] w fun e w' => e = .returned (.string ⟨l.toArray⟩) ∧ w' = w.drew.freeze ⟨g, 0, none⟩ l.length
theorem eString_next {tB uB : TypeId} {args : List AV} {v : AV} {H' : AH} (he : eString tB uB args H = some (v, H')) : H'.next = H.next := by
  unfold eString at he
  repeat' split at he
  all_goals first
    | (cases he; done)
    | (simp only [Option.some.injEq, Prod.mk.injEq] at he
       obtain ⟨_, rfl⟩ := he
       rfl)
theorem eString_does {tB uB : TypeId} {f : Nat} (hW : StringW P uB f) {b : Nat} {v : AV} {H' : AH} (h : R w0 L m H w) (he : eString tB uB [.ptr b 0] H = some (v, H')) {u : Value} (hu : VR m (.ptr b 0) u) :
    H'.next = H.next ∧ Calls P f #[u] w fun e w' => ∃ u' m', e = .returned u' ∧ Step m H w m' H' w' ∧ VR m' v u' ∧ R w0 L m' H' w' := by
  simp only [eString] at he
  split at he
  · rename_i ad sl hb
    split at he
    · rename_i ht
      obtain ⟨g, u0, u1, hm, hsh, c0, v0, c1, v1, f0, f1⟩ := h.builder hb ht
      have hu' : u = .pointer (some ⟨g, 0, none⟩) := by
        cases hu with
        | ptr _ _ g' o' n' hm' =>
          rw [hm] at hm'
          simp only [Option.some.injEq, Prod.mk.injEq] at hm'
          obtain ⟨rfl, rfl, rfl⟩ := hm'
          rfl
      subst hu'
      split at he
      · simp only [Option.some.injEq, Prod.mk.injEq] at he
        obtain ⟨rfl, rfl⟩ := he
        cases v1
        refine ⟨rfl, (hW.nil g w c1).mono ?_⟩
        rintro e w' ⟨rfl, rfl⟩
        exact ⟨_, m, rfl, Step.world (Below.refl _ _).drew, .str [], h.drew⟩
      · rename_i b2 len
        split at he
        · rename_i vs hb2
          split at he
          · rename_i hc
            obtain ⟨hc1, hc2, hc3⟩ := hc
            split at he
            · rename_i s hs
              simp only [Option.some.injEq, Prod.mk.injEq] at he
              obtain ⟨rfl, rfl⟩ := he
              refine ⟨rfl, ?_⟩
              cases hr : rd H b2 0 len with
              | none => rw [hr] at hs; cases hs
              | some l =>
                rw [hr] at hs
                simp only [Option.bind_some] at hs
                cases v1 with
                | slice _ _ _ _ _ g' o n a c g1 g2 g3 g4 =>
                  obtain ⟨q, y1, y2, y3, _⟩ := h.ty b2 _ hc3
                  rw [g1] at y1
                  simp only [Option.some.injEq] at y1
                  subst y1
                  simp only at y2 y3
                  subst y2
                  obtain ⟨us, e1, e2, e3⟩ := h.read hr g1
                  have e4 := unbytes_cells hs e2
                  subst e4
                  have hlen : s.length = len := by simpa using e1
                  subst hlen
                  obtain ⟨ha, hroom⟩ := g4 (by omega)
                  subst ha
                  refine (hW.some g g' c n s w (by simpa using c1) (by intro e; subst e; exact hc1 rfl) g2 (by omega) hc2 y3 (fun j x hx => ?_)).mono ?_
                  · have := e3 j (.int .u8 (x.toNat : Int)) (by rw [List.getElem?_map, hx]; rfl)
                    simpa using this
                  · rintro e w' ⟨rfl, rfl⟩
                    obtain ⟨k1, k2⟩ := h.drew.freeze hb2 g1 0 s.length
                    exact ⟨_, m, rfl, (Step.world (Below.refl _ _).drew).trans k2, .str s, k1⟩
            · cases he
          · cases he
        · cases he
      · cases he
    · cases he
  · cases he
end
end Go.Abs
end
section
/- The walks of a builder's methods in this seat. -/
namespace Go.Proofs.TryB
open Go Go.RowKit Go.Abs
set_option linter.unusedVariables false
theorem sizeB : (Try.prog.info? 65).map (·.size) = some 2 := by kernel_rfl
theorem liesB : liesAt Try.prog Try.prog.depth 65 (2 / Try.prog.cellsOf 65) 0 65 1 = true := by kernel_rfl
theorem cellsU : Try.prog.cellsOf 5 = 1 := by kernel_rfl
set_option maxHeartbeats 1000000 in
set_option maxRecDepth 100000 in
theorem cc_used (b : Nat) (w : World) (h0 : w.cell? ⟨b, 0, none⟩ = some (.pointer (some ⟨b, 0, none⟩))) :
    Calls Try.prog 79 #[.pointer (some ⟨b, 0, none⟩)] w fun e w' => e = .returned (.tuple #[]) ∧ w' = w := by
  obtain ⟨j, hj, _⟩ := Option.map_eq_some_iff.1 sizeB
  go_enter Try.func79, Try.ntmps79
  go_wp2
  rw [Lib.run_neq_ptr_same w _ Try.underlying62 hj]
  go_wp2
  go_end0
  exact ⟨rfl, rfl⟩
set_option maxHeartbeats 1000000 in
set_option maxRecDepth 100000 in
theorem cc_fresh (b : Nat) (w : World) (h0 : w.cell? ⟨b, 0, none⟩ = some (.pointer none)) (hsh : w.shape? b = some (65, 2)) (hfz : w.frozen? ⟨b, 0, none⟩ = false) :
    Calls Try.prog 79 #[.pointer (some ⟨b, 0, none⟩)] w fun e w' => e = .returned (.tuple #[]) ∧ w' = w.setCell ⟨b, 0, none⟩ (.pointer (some ⟨b, 0, none⟩)) := by
  obtain ⟨j, hj, hjs⟩ := Option.map_eq_some_iff.1 sizeB
  go_enter Try.func79, Try.ntmps79
  go_wp2
  rw [Lib.run_to_unsafe w ⟨b, 0, none⟩ Try.underlying62 Try.underlying142 hj (by rw [hjs]; decide) hsh (Nat.zero_lt_succ 1)]
  simp only [Result.andThen]
  rw [Oper.upon_value]
  go_wp2
  rw [run_callFunc_extern Try.func93 (by kernel_rfl) (by kernel_rfl) (by kernel_rfl) (e := Extern.AbiNoEscape.same) (by kernel_rfl)]
  rw [Lib.run_noEscape]
  simp only [Result.andThen]
  rw [Oper.upon_value]
  go_wp2
  rw [Lib.run_from_unsafe w ⟨b, 0, none⟩ Try.underlying142 Try.underlying62 hj hsh liesB]
  simp only [Result.andThen]
  rw [Oper.upon_value]
  go_wp2
  go_end0
  exact ⟨rfl, rfl⟩
theorem copyW : CopyW Try.prog 65 79 := ⟨cc_fresh, cc_used⟩
set_option maxHeartbeats 2000000 in
set_option maxRecDepth 100000 in
theorem writeW : WriteW Try.prog 50 79 63 9 := by
  intro g s w C Fin hcc hrun
  go_enter Try.func50, Try.ntmps50
  go_wp2_with (go_at_call 79; refine hcc.mono ?_)
  rintro e w1 ⟨rfl, h1⟩
  obtain ⟨x1, ao, n', cap, w2, dv, c1, hrun, d1, f1, fin⟩ := hrun w1 h1
  go_wp2_with (at_builtin; refine wpList_append_eq rfl _ _ 63 9 rfl _ _ rfl rfl (.slice ao n' cap) w2 hrun ?_)
  go_wp2
  go_ret2
  exact ⟨rfl, fin⟩
set_option maxHeartbeats 2000000 in
set_option maxRecDepth 100000 in
theorem str_nil (b : Nat) (w : World) (c1' : w.cell? ⟨b, 1, none⟩ = some (.slice none 0 0)) :
    Calls Try.prog 26 #[.pointer (some ⟨b, 0, none⟩)] w fun e w' => e = .returned (.string ⟨#[]⟩) ∧ w' = w.drew := by
  have hUS : ∀ (W : World) (q : Option Addr), (Builtin.unsafeString_ #[103, 3] 9 #[.pointer q, .int .i64 0]).run Try.prog W = .ok (.string .empty) W := fun W q => Lib.run_unsafeString_none W _ _ _ q
  have c1 : w.drew.cell? ⟨b, 1, none⟩ = some (.slice none 0 0) := c1'
  have hSD : (Builtin.unsafeSliceData_ #[63] 103 #[.slice none 0 0]).run Try.prog w.drew = .ok (.pointer none) w.drew := rfl
  go_enter Try.func26, Try.ntmps26
  go_wp2
  go_region
  all_goals (go_wp2; go_ret; exact ⟨rfl, rfl⟩)
set_option maxHeartbeats 2000000 in
set_option maxRecDepth 100000 in
theorem str_some (b g cap n : Nat) (l : List UInt8) (w : World) (c1' : w.cell? ⟨b, 1, none⟩ = some (.slice (some ⟨g, 0, none⟩) l.length cap)) (h0 : l ≠ []) (hcap : l.length ≤ cap) (hn : l.length ≤ n) (hlen : l.length ≤ 140737488355328)
    (hsh : w.shape? g = some (5, n)) (hcell : ∀ j x, l[j]? = some x → w.cell? ⟨g, j, none⟩ = some (.int .u8 x.toNat)) :
    Calls Try.prog 26 #[.pointer (some ⟨b, 0, none⟩)] w fun e w' => e = .returned (.string ⟨l.toArray⟩) ∧ w' = w.drew.freeze ⟨g, 0, none⟩ l.length := by
  have hl0 : l.length ≠ 0 := by simpa using h0
  have c1 : w.drew.cell? ⟨b, 1, none⟩ = some (.slice (some ⟨g, 0, none⟩) l.length cap) := c1'
  have hSD : (Builtin.unsafeSliceData_ #[63] 103 #[.slice (some ⟨g, 0, none⟩) l.length cap]).run Try.prog w.drew = .ok (.pointer (some ⟨g, 0, none⟩)) w.drew :=
    Lib.run_unsafeSliceData_row _ _ _ _ _ _ (by omega)
  have hUS : (Builtin.unsafeString_ #[103, 3] 9 #[.pointer (some ⟨g, 0, none⟩), .int .i64 l.length]).run Try.prog w.drew = .ok (.string ⟨l.toArray⟩) (w.drew.freeze ⟨g, 0, none⟩ l.length) := by
    refine Lib.run_unsafeString_row w.drew 103 3 9 5 Try.underlying103 cellsU g n hsh l h0 hn (by omega) ?_
    intro j x hx
    have := hcell j x hx
    have ea : (⟨g, 0, none⟩ : Addr).add j = ⟨g, j, none⟩ := by
      by_cases hj0 : j = 0
      · subst hj0; simp [Addr.add]
      · simp [Addr.add, hj0]
    rw [ea]
    exact this
  go_enter Try.func26, Try.ntmps26
  go_wp2
  go_region
  all_goals (go_wp2; go_ret; exact ⟨rfl, rfl⟩)
theorem stringW : StringW Try.prog 5 26 := ⟨str_nil, str_some⟩
end Go.Proofs.TryB
end
section
/- slices.Clone: what is not told apart here (nil, and a slice without elements) comes to one answer. -/
namespace Go.Vw
open Go Go.RowKit Go.Abs
section
variable {P : Program} {K : Knobs} {X : ExtV} {ext : Nat → Option (List AV → AH → Option (AV × AH))}

theorem readyC_seq {wm : TypeId → Bool} {quiet : Nat → Bool} {n : Nat} {a b : Code} {x y : CC} (h : readyC P wm quiet n (.seq a b) = some (.seq x y)) : readyC P wm quiet n a = some x ∧ readyC P wm quiet n b = some y := by
  simp only [readyC] at h
  split at h
  · rename_i x' y' hx hy
    simp only [Option.some.injEq, CC.seq.injEq] at h
    obtain ⟨rfl, rfl⟩ := h
    exact ⟨hx, hy⟩
  · cases h
theorem readyC_cond {wm : TypeId → Bool} {quiet : Nat → Bool} {n : Nat} {c : Operand} {a b : Code} {o : O} {x y : CC} (h : readyC P wm quiet n (.cond c a b) = some (.cond o x y)) : readyC P wm quiet n a = some x ∧ readyC P wm quiet n b = some y := by
  simp only [readyC] at h
  split at h
  · rename_i x' y' hx hy
    simp only [Option.some.injEq, CC.cond.injEq] at h
    obtain ⟨_, rfl, rfl⟩ := h
    exact ⟨hx, hy⟩
  · cases h

def c_cl (sz bytes : Nat) (z : List V) : CF :=
  (.mk 8
  (.seq (.r [(.s 2 (.mv false (.c (.vec true []))))])
  (.seq
  (.seq (.r [(.s 3 (.mv false (.t 0))), (.s 4 (.bo .eql 0 (.t 3) (.c (.vec true []))))]) (.cond (.t 4)
  (.seq (.r [(.s 2 (.mv false (.c (.vec true []))))]) .ret) .skip))
  (.seq (.r [(.s 5 (.bs false 0 sz z [])), (.s 6 (.mv false (.t 0))), (.s 7 (.ap false sz bytes (.t 5) (.t 6))), (.s 2 (.mv true (.t 7)))]) .ret))) [(.t 2)])
/-- Where the code of a Clone asks for nil. -/
def CloneFn (P : Program) (f : Nat) (t : TypeId) : Prop := ∃ fn k0 i1 A1 k2 k3 τ s af τ' u s' af' e, P.funcs[f]? = some fn ∧ fn.body = some (.seq k0 (.seq (.seq (.region i1 A1 false) (.cond (.tmp 4) k2 .skip)) k3)) ∧
  A1.toList = [⟨some 3, .move (.tmp 0), τ, s, af, none⟩, ⟨some 4, .binOp .eql t (.tmp 3) (.const (.slice none 0 0)) u, τ', s', af', none⟩] ∧ P.underlying t = some (.slice e) ∧ fn.results.toList = [.tmp 2]
def NoX : ExtV := fun _ _ _ _ _ _ => False
theorem clone_sim (hmix : P.follows .mixedOrders = true) (hK : ∀ f, K.inn f = true → ext f = none) {f t sz bytes : Nat} {z : List V} {q : Bool} (Hf : Has P K f q (c_cl sz bytes z)) (hc : CloneFn P f t)
    {fl : Nat} {σ : St} {o : Bool} {els : List (List V)} (he : els.all (fun e => decide (e.length = sz)) = true) (hn : els.length ≤ 140737488355328) (hb : els.length * bytes ≤ 140737488355328) : SimCall K (lim P ext) fl f [.vec o els] σ (.vec true els) σ := by
  obtain ⟨fn, k0, i1, A1, k2, k3, τ, s, af, τ', u, s', af', e, h1, h2, h3, h4, h5⟩ := hc
  have hrd := Hf.code
  unfold readyF at hrd
  rw [h1] at hrd
  simp only [h2] at hrd
  split at hrd
  · rename_i kk rr hkk hrr
    simp only [Option.some.injEq, c_cl, CF.mk.injEq] at hrd
    obtain ⟨hnt, rfl, rfl⟩ := hrd
    rw [hnt] at hkk
    obtain ⟨q0, q1⟩ := readyC_seq hkk
    obtain ⟨q1, q3⟩ := readyC_seq q1
    obtain ⟨_, q2⟩ := readyC_seq q1
    obtain ⟨q2, _⟩ := readyC_cond q2
    generalize hfl : (if q = true then max fl σ.size else fl) = fl'
    let ρ0 : VEnv := fun t => ([V.vec o els] : List V).getD t .undef
    let ρ1 : VEnv := fun t => if t = 0 then .vec o els else .undef
    let ρ2 : VEnv := fun t => if t = 2 then .vec true els else .undef
    have b0 : W P K NoX ⟨8, K.wm f, fl', true⟩ k0 ρ0 σ (fun ex ρ' σ' => ex = .normal ∧ ρ' 0 = .vec o els ∧ σ' = σ) := by
      refine goK_sound (.r [(.s 2 (.mv false (.c (.vec true []))))]) ?_ k0 q0
      have : goM P K NoX (K.wm f) 8 fl' true (fun ex ρ' σ' => ex = .normal ∧ ρ' 0 = .vec o els ∧ σ' = σ) (.r [(.s 2 (.mv false (.c (.vec true []))))]) [] ρ0 σ := by
        simp [ρ0]
      exact this
    have b2 : els = [] → W P K NoX ⟨8, K.wm f, fl', true⟩ k2 ρ1 σ (fun ex ρ' σ' => ex = .ret ∧ ρ' 2 = .vec true els ∧ σ' = σ) := by
      intro hz
      refine goK_sound _ ?_ k2 q2
      have : goM P K NoX (K.wm f) 8 fl' true (fun ex ρ' σ' => ex = .ret ∧ ρ' 2 = .vec true els ∧ σ' = σ) (.seq (.r [(.s 2 (.mv false (.c (.vec true []))))]) .ret) [] ρ1 σ := by
        simp [hz]
      exact this
    have b3 : W P K NoX ⟨8, K.wm f, fl', true⟩ k3 ρ1 σ (fun ex ρ' σ' => ex = .ret ∧ ρ' 2 = .vec true els ∧ σ' = σ) := by
      refine goK_sound _ ?_ k3 q3
      have : goM P K NoX (K.wm f) 8 fl' true (fun ex ρ' σ' => ex = .ret ∧ ρ' 2 = .vec true els ∧ σ' = σ) (.seq (.r [(.s 5 (.bs false 0 sz z [])), (.s 6 (.mv false (.t 0))), (.s 7 (.ap false sz bytes (.t 5) (.t 6))), (.s 2 (.mv true (.t 7)))]) .ret) [] ρ1 σ := by
        have he' : ∀ x ∈ els, x.length = sz := fun x hx => by simpa using List.all_eq_true.1 he x hx
        have hf : fits bytes (([] : List (List V)).length + els.length) := by
          unfold fits
          simp only [List.length_nil, Nat.zero_add]
          exact ⟨hn, hb⟩
        simp [ρ1]
        rw [if_pos he', appV_own hf rfl]
        simp
      exact this
    obtain ⟨ex0, ρ0', σ0', B0, rfl, r0, rfl⟩ := b0
    obtain ⟨ex3, ρ3', σ3', B3, rfl, r3, e3⟩ := b3
    have hsim : Sim P K ext (.code ⟨8, K.wm f, fl', true⟩ (.seq k0 (.seq (.seq (.region i1 A1 false) (.cond (.tmp 4) k2 .skip)) k3)) ρ0 σ0' .ret ρ2 σ0') := by
      intro g Pr H ρA hS hE
      refine V_seq (V_mono (sim hmix hK (X := NoX) (fun _ _ _ _ _ _ h => h.elim) B0 g Pr H ρA hS hE) (fun ex' ρA' H' ⟨hex, g1, hp, hE1⟩ => ?_))
      subst hex
      have ha := (hE1 0).1
      rw [r0] at ha
      obtain ⟨bb, hbb, hnil⟩ : ∃ bb : Bool, binA P .eql t (ρA' 0) .nils = some (.bool bb) ∧ (bb = true → els = []) := by
        generalize ρA' 0 = x at ha
        cases ha with
        | nils => exact ⟨true, by simp only [binA, eqNil, h4, eqRes], fun _ => rfl⟩
        | vec => exact ⟨false, by simp only [binA, eqNil, h4, eqRes], fun h => by cases h⟩
      have hE2 : ER g1 H' Pr ρ1 (upd (upd ρA' 3 (ρA' 0)) 4 (.bool bb)) := by
        intro t
        by_cases e0 : t = 0
        · subst e0
          show VA g1 (ρ1 0) (ρA' 0) ∧ OwnV g1 H' Pr (.tmp 0) (ρ1 0) (ρA' 0)
          have := hE1 0
          rw [r0] at this
          exact this
        · have : ρ1 t = .undef := if_neg e0
          rw [this]
          exact ⟨.undef _, OwnV.scalar (fun _ e => by cases e) rfl⟩
      have fin : ∀ {ρ' : VEnv} {g2 : Gh} {H2 : AH} {ρA2 : Env}, ρ' 2 = .vec true els → ER g2 H2 Pr ρ' ρA2 → ER g2 H2 Pr ρ2 ρA2 := by
        intro ρ' g2 H2 ρA2 hr hE' t
        by_cases e0 : t = 2
        · subst e0
          have := hE' 2
          rw [hr] at this
          exact this
        · have : ρ2 t = .undef := if_neg e0
          rw [this]
          exact ⟨.undef _, OwnV.scalar (fun _ e => by cases e) rfl⟩
      refine V_seq (V_seq (V_region (by rw [h3]; rfl) ?_))
      rw [h3]
      simp only [runE, evOpE, evalE, updD_some, upd_apply, if_true, evalO, ofConst, ofVal, holds_some]
      rw [hbb]
      simp only [Option.map_some, holds_some]
      refine V_cond (b := bb) rfl ?_
      cases bb with
      | true =>
        obtain ⟨ex2, ρ2', σ2', B2, rfl, r2, e2⟩ := b2 (hnil rfl)
        rw [e2] at B2
        exact V_mono (sim hmix hK (X := NoX) (fun _ _ _ _ _ _ h => h.elim) B2 g1 Pr H' _ hp.sr hE2) (fun ex' ρA2 H2 ⟨hex, g2, hp2, hE3⟩ => by
          subst hex
          exact ⟨rfl, g2, hp.trans hp2, fin r2 hE3⟩)
      | false =>
        rw [e3] at B3
        exact V_skip (V_mono (sim hmix hK (X := NoX) (fun _ _ _ _ _ _ h => h.elim) B3 g1 Pr H' _ hp.sr hE2) (fun ex' ρA2 H2 ⟨hex, g2, hp2, hE3⟩ => by
          subst hex
          exact ⟨rfl, g2, hp.trans hp2, fin r3 hE3⟩))
    have hres : allA (resV P σ0' ρ2) fn.results.toList = some [.vec true els] := by rw [h5]; rfl
    have key := sim_call (fl := fl) (args := [V.vec o els]) hK Hf.inn h1 h2 (by rw [hnt]; exact (Nat.le_of_ble_eq_true rfl : 1 ≤ 8)) (by rw [Hf.quiet, Hf.tl, hnt, hfl]; exact hsim) (.inr rfl) hres
    rw [h5] at key
    have hce : callEnd σ0'.size (retV [.tmp 2] [.vec true els]) σ0' = (.vec true els, σ0') := by
      have hv : retV [.tmp 2] [.vec true els] = .vec true els := rfl
      rw [hv]
      unfold callEnd
      split
      · rw [trim_self _ (Nat.le_max_left _ _)]
      · rfl
    rw [hce] at key
    exact key
  · cases hrd
end
end Go.Vw
end
section
/- Lexing by its definition, over lists of bytes. -/
namespace Lx
abbrev Str := List UInt8

structure Pos where
  line : Int
  col : Int
  deriving DecidableEq

def adv (p : Pos) (c : UInt8) : Pos := if c = 10 then ⟨p.line + 1, 1⟩ else ⟨p.line, p.col + 1⟩
def advs (p : Pos) (l : Str) : Pos := l.foldl adv p

/-- The kind of a sign; 0: none. -/
def sign (c : UInt8) : Nat := if c = 123 then 2 else if c = 125 then 3 else if c = 59 then 4 else if c = 91 then 5 else if c = 93 then 6 else 0

/-- Does a comment of the second kind begin here? -/
def begins : Str → Bool
  | a :: b :: _ => a == 47 && b == 42
  | _ => false

/-- Does a word end here? -/
def ends (l : Str) : Bool :=
  match l with
  | [] => true
  | c :: _ => c == 32 || c == 10 || c == 34 || c == 35 || sign c != 0 || begins l

/-- How many bytes stand ahead of a place where `q` holds (or the end). -/
def upto (q : Str → Bool) : Str → Nat
  | [] => 0
  | c :: t => if q (c :: t) then 0 else upto q t + 1

/-- Where "*/" begins. -/
def closeAt : Str → Option Nat
  | [] => none
  | a :: t => if a == 42 && t.head? == some 47 then some 0 else (closeAt t).map (· + 1)

inductive T1 where
  | skip (n : Nat)
  | tok (k : Nat) (text : Str) (n : Nat)
  | bad

def isNl (l : Str) : Bool := l.head? == some 10
def isQuoteOrNl (l : Str) : Bool := l.head? == some 34 || l.head? == some 10

/-- What stands first in a text that is not empty. -/
def tok1 (l : Str) : T1 :=
  match l with
  | [] => .skip 0
  | c :: t =>
    if c = 32 ∨ c = 10 then .skip 1
    else if c = 35 then .skip (upto isNl l)
    else if begins l then
      match closeAt (t.drop 1) with
      | none => .bad
      | some n => .skip (n + 4)
    else if c = 34 then
      (if t.drop (upto isQuoteOrNl t) |>.head? |> (· == some 34) then .tok 1 (t.take (upto isQuoteOrNl t)) (upto isQuoteOrNl t + 2) else .bad)
    else if sign c ≠ 0 then .tok (sign c) [c] 1
    else .tok 1 (l.take (upto ends l)) (upto ends l)

structure Tok where
  kind : Nat
  text : Str
  pos : Pos

inductive Res (α : Type) where
  | ok (a : α)
  | err (p : Pos) (e : Int)

/-- Tokens, with `n` rounds. -/
def toksN : Nat → Pos → Str → Option (Res (List Tok))
  | _, _, [] => some (.ok [])
  | 0, _, _ :: _ => none
  | n + 1, p, c :: t =>
    match tok1 (c :: t) with
    | .bad => some (.err p 71)
    | .skip k => toksN n (advs p ((c :: t).take k)) ((c :: t).drop k)
    | .tok kd tx k =>
      match toksN n (advs p ((c :: t).take k)) ((c :: t).drop k) with
      | some (.ok r) => some (.ok (⟨kd, tx, p⟩ :: r))
      | r => r

theorem upto_le (q : Str → Bool) (l : Str) : upto q l ≤ l.length := by
  induction l with
  | nil => simp [upto]
  | cons c t ih => simp only [upto]; split <;> simp <;> omega

theorem upto_pos {q : Str → Bool} {c : UInt8} {t : Str} (h : q (c :: t) = false) : 0 < upto q (c :: t) := by
  simp [upto, h]

theorem closeAt_le : ∀ {l : Str} {n : Nat}, closeAt l = some n → n + 2 ≤ l.length := by
  intro l
  induction l with
  | nil => intro n h; simp [closeAt] at h
  | cons a t ih =>
    intro n h
    simp only [closeAt] at h
    split at h
    · rename_i hc
      simp only [Option.some.injEq] at h
      subst h
      cases t with
      | nil => simp at hc
      | cons b t => simp
    · cases hn : closeAt t with
      | none => simp [hn] at h
      | some m => simp [hn] at h; have := ih hn; simp; omega

/-- What is taken is something, and no more than there is. -/
def T1.took : T1 → Nat
  | .skip n => n
  | .tok _ _ n => n
  | .bad => 1

theorem tok1_took (c : UInt8) (t : Str) : 0 < (tok1 (c :: t)).took ∧ (tok1 (c :: t)).took ≤ (c :: t).length := by
  simp only [tok1]
  split
  · simp [T1.took]
  · rename_i h1
    split
    · rename_i h2
      refine ⟨?_, upto_le _ _⟩
      simp only [T1.took]
      apply upto_pos
      simp [isNl]
      intro h; subst h; simp at h2
    · split
      · rename_i hb
        split
        · simp [T1.took]
        · rename_i n hn
          have := closeAt_le hn
          cases t with
          | nil => simp [begins] at hb
          | cons b t => simp [T1.took] at this ⊢; omega
      · rename_i hb
        split
        · split
          · rename_i hq
            simp only [T1.took]
            have h2 : upto isQuoteOrNl t < t.length := by
              rcases Nat.lt_or_ge (upto isQuoteOrNl t) t.length with h | h
              · exact h
              · rw [List.drop_eq_nil_of_le h] at hq; simp at hq
            simp; omega
          · simp [T1.took]
        · rename_i h34
          split
          · simp [T1.took]
          · rename_i hs
            refine ⟨?_, upto_le _ _⟩
            simp only [T1.took]
            apply upto_pos
            simp only [not_or] at h1
            simp_all [ends]

theorem toksN_some : ∀ (n : Nat) (p : Pos) (l : Str), l.length ≤ n → (toksN n p l).isSome
  | _, _, [], _ => by simp [toksN]
  | 0, _, _ :: _, h => by simp at h
  | n + 1, p, c :: t, h => by
    have hk := tok1_took c t
    rw [toksN]
    split
    · rfl
    · rename_i k he
      rw [he] at hk
      simp only [T1.took] at hk
      exact toksN_some n _ _ (by simp at h ⊢; omega)
    · rename_i kd tx k he
      rw [he] at hk
      simp only [T1.took] at hk
      have := toksN_some n (advs p ((c :: t).take k)) ((c :: t).drop k) (by simp at h ⊢; omega)
      cases hr : toksN n (advs p ((c :: t).take k)) ((c :: t).drop k) with
      | none => rw [hr] at this; simp at this
      | some r => cases r <;> rfl

theorem toksN_mono : ∀ (n m : Nat) (p : Pos) (l : Str), l.length ≤ n → n ≤ m → toksN m p l = toksN n p l
  | _, _, _, [], _, _ => by simp [toksN]
  | 0, _, _, _ :: _, h, _ => by simp at h
  | n + 1, 0, _, _ :: _, _, h => by omega
  | n + 1, m + 1, p, c :: t, h, hm => by
    have hk := tok1_took c t
    rw [toksN, toksN]
    cases he : tok1 (c :: t) with
    | bad => rfl
    | skip k =>
      rw [he] at hk
      simp only [T1.took] at hk
      exact toksN_mono n m _ _ (by simp at h ⊢; omega) (by omega)
    | tok kd tx k =>
      rw [he] at hk
      simp only [T1.took] at hk
      simp only
      rw [toksN_mono n m _ _ (by simp at h ⊢; omega) (by omega)]

/-- The tokens of a text that stands at p; or what is not closed. -/
def toks (p : Pos) (l : Str) : Res (List Tok) :=
  match toksN l.length p l with
  | some r => r
  | none => .err p 0

theorem toks_nil (p : Pos) : toks p [] = .ok [] := by simp [toks, toksN]

def Res.push (t : Tok) : Res (List Tok) → Res (List Tok)
  | .ok r => .ok (t :: r)
  | .err p e => .err p e

theorem toks_cons (p : Pos) (c : UInt8) (t : Str) : toks p (c :: t) =
    match tok1 (c :: t) with
    | .bad => .err p 71
    | .skip k => toks (advs p ((c :: t).take k)) ((c :: t).drop k)
    | .tok kd tx k => (toks (advs p ((c :: t).take k)) ((c :: t).drop k)).push ⟨kd, tx, p⟩ := by
  have hk := tok1_took c t
  have key : ∀ k, 0 < k → k ≤ (c :: t).length → toksN t.length (advs p ((c :: t).take k)) ((c :: t).drop k) = some (toks (advs p ((c :: t).take k)) ((c :: t).drop k)) := by
    intro k h1 h2
    have hs := toksN_some ((c :: t).drop k).length (advs p ((c :: t).take k)) ((c :: t).drop k) (Nat.le_refl _)
    rw [toksN_mono ((c :: t).drop k).length t.length _ _ (Nat.le_refl _) (by simp; omega)]
    unfold toks
    cases hr : toksN ((c :: t).drop k).length (advs p ((c :: t).take k)) ((c :: t).drop k) with
    | none => rw [hr] at hs; simp at hs
    | some r => rfl
  conv => lhs; unfold toks
  rw [List.length_cons, toksN]
  cases he : tok1 (c :: t) with
  | bad => rfl
  | skip k =>
    rw [he] at hk
    simp only
    rw [key k hk.1 hk.2]
  | tok kd tx k =>
    rw [he] at hk
    simp only
    rw [key k hk.1 hk.2]
    cases toks (advs p ((c :: t).take k)) ((c :: t).drop k) <;> rfl

/-- What may not stand: (place, error); OK is 0. -/
def checkL : Pos → Str → Pos × Int
  | _, [] => (⟨0, 0⟩, 0)
  | p, c :: t =>
    if p.line > 4096 then (p, 3)
    else if c = 10 then checkL ⟨p.line + 1, 1⟩ t
    else if c < 32 ∨ c > 126 then (p, 70)
    else checkL ⟨p.line, p.col + 1⟩ t

def check (l : Str) : Pos × Int := if l.length > 65536 then (⟨0, 0⟩, 3) else checkL ⟨1, 1⟩ l

/-- Tokens: P7.2. -/
def tokens (l : Str) : Res (List Tok) :=
  match check l with
  | (p, e) => if e = 0 then toks ⟨1, 1⟩ l else .err p e
end Lx
end
section
/- Statements of braces, by their definition. -/
namespace Tr
open Lx

inductive Node where
  | mk (words : List Str) (pos : List Pos) (block : Bool) (kids : List Node)

def Node.words : Node → List Str | .mk w _ _ _ => w
def Node.pos : Node → List Pos | .mk _ p _ _ => p
def Node.block : Node → Bool | .mk _ _ b _ => b
def Node.kids : Node → List Node | .mk _ _ _ k => k

inductive PR (α : Type) where
  | ok (a : α) (rest : List Tok)
  | err (p : Pos) (e : Int)

def plain (t : Tok) : Bool := t.kind == 1
def wordsOf (ts : List Tok) : List Tok := ts.takeWhile plain
def behind (ts : List Tok) : List Tok := ts.dropWhile plain
def leafOf (ws : List Tok) : Node := .mk (ws.map (·.text)) (ws.map (·.pos)) false []
def leaves (ws inner : List Tok) : List Node := inner.map fun t => leafOf (ws ++ [t])

mutual
/-- Statements up to the brace that closes them. -/
def pList : Nat → Nat → Pos → List Tok → Option (PR (List Node))
  | 0, _, _, _ => none
  | _ + 1, deep, op, [] => some (if deep > 0 then .err op 71 else .ok [] [])
  | n + 1, deep, op, t :: ts =>
    if t.kind = 3 then some (if deep > 0 then .ok [] ts else .err t.pos 130)
    else if t.kind = 1 then
      match pStmt n deep (t :: ts) with
      | some (.ok a r) =>
        match pList n deep op r with
        | some (.ok b r2) => some (.ok (a ++ b) r2)
        | x => x
      | x => x
    else some (.err t.pos 130)
/-- A statement, or the leaves of one with signs. -/
def pStmt : Nat → Nat → List Tok → Option (PR (List Node))
  | 0, _, _ => none
  | n + 1, deep, ts =>
    let first := (ts.head?.map (·.pos)).getD ⟨0, 0⟩
    match behind ts with
    | [] => some (.err first 71)
    | t :: r =>
      if t.kind = 5 then
        match behind r with
        | [] => some (.err first 71)
        | u :: r2 =>
          if u.kind = 6 ∧ wordsOf r ≠ [] then
            match r2 with
            | [] => some (.err first 71)
            | v :: r3 => if v.kind = 4 then some (.ok (leaves (wordsOf ts) (wordsOf r)) r3) else some (.err v.pos 130)
          else some (.err u.pos 130)
      else if t.kind = 4 then some (.ok [leafOf (wordsOf ts)] r)
      else if t.kind = 2 then
        if deep = 32 then some (.err t.pos 140)
        else
          match pList n (deep + 1) t.pos r with
          | some (.ok k r2) => some (.ok [.mk ((wordsOf ts).map (·.text)) ((wordsOf ts).map (·.pos)) true k] r2)
          | some (.err p e) => some (.err p e)
          | none => none
      else some (.err t.pos 130)
end

theorem dropWhile_le {α : Type} (q : α → Bool) (ts : List α) : (ts.dropWhile q).length ≤ ts.length := by
  induction ts with
  | nil => simp
  | cons a l ih => rw [List.dropWhile_cons]; split <;> simp <;> omega
theorem behind_le (ts : List Tok) : (behind ts).length ≤ ts.length := dropWhile_le _ _
theorem behind_lt {t : Tok} {ts : List Tok} (h : t.kind = 1) : (behind (t :: ts)).length ≤ ts.length := by
  unfold behind
  rw [List.dropWhile_cons_of_pos (by simp [plain, h])]
  exact dropWhile_le _ _

def PR.left {α : Type} : Option (PR α) → List Tok
  | some (.ok _ r) => r
  | _ => []

mutual
theorem pList_some : ∀ (n deep : Nat) (op : Pos) (ts : List Tok), 2 * ts.length + 1 ≤ n → (pList n deep op ts).isSome ∧ (PR.left (pList n deep op ts)).length ≤ ts.length
  | 0, _, _, _, h => by omega
  | n + 1, deep, op, [], _ => by
    rw [pList]; split <;> simp [PR.left]
  | n + 1, deep, op, t :: ts, h => by
    rw [pList]
    split
    · split <;> simp [PR.left]
    · split
      · rename_i h1
        have hs := pStmt_some n deep (t :: ts) (by simp at h ⊢; omega) (by simp [h1])
        cases hp : pStmt n deep (t :: ts) with
        | none => rw [hp] at hs; simp at hs
        | some x =>
          rw [hp] at hs
          cases x with
          | err p e => simp [PR.left]
          | ok a r =>
            have hl : r.length < (t :: ts).length := by simpa [PR.left] using hs.2
            have hr := pList_some n deep op r (by simp at h hl ⊢; omega)
            simp only
            cases hq : pList n deep op r with
            | none => rw [hq] at hr; simp at hr
            | some y =>
              rw [hq] at hr
              cases y with
              | err p e => simp [PR.left]
              | ok b r2 =>
                have : r2.length ≤ r.length := by simpa [PR.left] using hr.2
                simp [PR.left] at hl ⊢; omega
      · simp [PR.left]
theorem pStmt_some : ∀ (n deep : Nat) (ts : List Tok), 2 * ts.length ≤ n → (∃ t r, ts = t :: r ∧ t.kind = 1) → (pStmt n deep ts).isSome ∧ (PR.left (pStmt n deep ts)).length < ts.length
  | 0, _, ts, h, he => by obtain ⟨t, r, rfl, _⟩ := he; simp at h
  | n + 1, deep, ts, h, he => by
    obtain ⟨t0, r0, rfl, h0⟩ := he
    have hb := behind_lt (ts := r0) h0
    rw [pStmt]
    cases hbe : behind (t0 :: r0) with
    | nil => simp [PR.left]
    | cons t r =>
      rw [hbe] at hb
      simp only
      split
      · have hb2 := behind_le r
        cases hbr : behind r with
        | nil => simp [PR.left]
        | cons u r2 =>
          rw [hbr] at hb2
          simp only
          split
          · cases r2 with
            | nil => simp [PR.left]
            | cons v r3 => simp only; split <;> simp [PR.left] at hb hb2 ⊢; omega
          · simp [PR.left]
      · split
        · simp [PR.left] at hb ⊢; omega
        · split
          · split
            · simp [PR.left]
            · have hr := pList_some n (deep + 1) t.pos r (by simp at h hb ⊢; omega)
              cases hq : pList n (deep + 1) t.pos r with
              | none => rw [hq] at hr; simp at hr
              | some y =>
                rw [hq] at hr
                cases y with
                | err p e => simp [PR.left]
                | ok k r2 =>
                  have : r2.length ≤ r.length := by simpa [PR.left] using hr.2
                  simp [PR.left] at hb ⊢; omega
          · simp [PR.left]
end

/-- Parse: P14.1. -/
def parseToks (ts : List Tok) : Res (List Node) :=
  match pList (2 * ts.length + 1) 0 ⟨0, 0⟩ ts with
  | some (.ok a _) => .ok a
  | some (.err p e) => .err p e
  | none => .err ⟨0, 0⟩ 0

def parse (s : Str) : Res (List Node) :=
  match tokens s with
  | .ok ts => parseToks ts
  | .err p e => .err p e
end Tr
end
section
/- What is written is read back. -/
namespace Tr
open Lx

/-! ### Kinds and texts alone -/
abbrev KT := Nat × Str
def ktOf (t : Tok) : KT := (t.kind, t.text)
def kt : Res (List Tok) → Option (List KT)
  | .ok ts => some (ts.map ktOf)
  | .err _ _ => none

def lexKT (l : Str) : Option (List KT) := kt (toks ⟨1, 1⟩ l)

theorem kt_push (t : Tok) (r : Res (List Tok)) : kt (r.push t) = (kt r).map (ktOf t :: ·) := by
  cases r <;> simp [kt, Res.push]

theorem kt_any : ∀ (n : Nat) (l : Str), l.length ≤ n → ∀ p q, kt (toks p l) = kt (toks q l) := by
  intro n
  induction n with
  | zero =>
    intro l h p q
    have : l = [] := List.eq_nil_of_length_eq_zero (by omega)
    subst this; simp [toks_nil]
  | succ n ih =>
    intro l h p q
    cases l with
    | nil => simp [toks_nil]
    | cons c t =>
      have hk := tok1_took c t
      rw [toks_cons, toks_cons]
      cases he : tok1 (c :: t) with
      | bad => simp [kt]
      | skip k =>
        rw [he] at hk
        simp only [T1.took] at hk
        exact ih _ (by simp at h ⊢; omega) _ _
      | tok kd tx k =>
        rw [he] at hk
        simp only [T1.took] at hk
        simp only [kt_push]
        rw [ih ((c :: t).drop k) (by simp at h ⊢; omega) (advs p ((c :: t).take k)) (advs q ((c :: t).take k))]
        rfl

theorem kt_toks (p : Pos) (l : Str) : kt (toks p l) = lexKT l := kt_any l.length l (Nat.le_refl _) _ _

theorem lex_nil : lexKT [] = some [] := by simp [lexKT, toks_nil, kt]

theorem lex_cons (c : UInt8) (t : Str) : lexKT (c :: t) =
    match tok1 (c :: t) with
    | .bad => none
    | .skip k => lexKT ((c :: t).drop k)
    | .tok kd tx k => (lexKT ((c :: t).drop k)).map ((kd, tx) :: ·) := by
  unfold lexKT
  rw [toks_cons]
  cases he : tok1 (c :: t) with
  | bad => simp [kt]
  | skip k => exact kt_toks _ _
  | tok kd tx k =>
    simp only [kt_push]
    rw [kt_toks]
    rfl

theorem lex_blank (t : Str) : lexKT (32 :: t) = lexKT t := by rw [lex_cons]; simp [tok1]
theorem lex_nl (t : Str) : lexKT (10 :: t) = lexKT t := by rw [lex_cons]; simp [tok1]
theorem lex_blanks (n : Nat) (t : Str) : lexKT (List.replicate n 32 ++ t) = lexKT t := by
  induction n with
  | zero => rfl
  | succ n ih => rw [List.replicate_succ, List.cons_append, lex_blank, ih]
theorem lex_sign {c : UInt8} (h : sign c ≠ 0) (t : Str) : lexKT (c :: t) = (lexKT t).map ((sign c, [c]) :: ·) := by
  rw [lex_cons]
  have h1 : ¬ (c = 32 ∨ c = 10) := by
    rintro (rfl | rfl) <;> simp [sign] at h
  have h2 : ¬ c = 35 := by rintro rfl; simp [sign] at h
  have h3 : ¬ c = 34 := by rintro rfl; simp [sign] at h
  have h4 : begins (c :: t) = false := by
    cases t with
    | nil => rfl
    | cons b t =>
      have : c ≠ 47 := by rintro rfl; simp [sign] at h
      simp [begins, this]
  simp [tok1, h1, h2, h3, h4, h]

/-! ### A word as it is written -/
def isBad (c : UInt8) : Bool := c < 32 || c > 126 || c == 34
def isSpecial (c : UInt8) : Bool := c == 32 || c == 123 || c == 125 || c == 59 || c == 91 || c == 93 || c == 35
def hasComment : Str → Bool
  | [] => false
  | c :: t => begins (c :: t) || hasComment t

def quoted (w : Str) : Option Str :=
  if w.any isBad then none
  else if w.isEmpty || w.any isSpecial || hasComment w then some (34 :: w ++ [34])
  else some w

theorem ends_sep {c : UInt8} (h : c = 32 ∨ c = 59) (t : Str) : ends (c :: t) = true := by
  rcases h with rfl | rfl <;> simp [ends, sign]

/-- Inside a plain word no word ends. -/
theorem ends_in {c : UInt8} {t r : Str} {x : UInt8} (hx : x ≠ 42) (hb : isBad c = false) (hs : isSpecial c = false) (hc : hasComment (c :: t) = false) : ends (c :: t ++ x :: r) = false := by
  have hbeg : begins (c :: t ++ x :: r) = false := by
    cases t with
    | nil => simp [begins, hx]
    | cons b t =>
      simp only [hasComment, Bool.or_eq_false_iff] at hc
      simpa [begins] using hc.1
  simp only [List.cons_append] at hbeg ⊢
  simp only [ends, hbeg, Bool.or_false]
  simp only [isBad, isSpecial, Bool.or_eq_false_iff, beq_eq_false_iff_ne, decide_eq_false_iff_not] at hb hs
  obtain ⟨⟨h1, _⟩, h2⟩ := hb
  have h10 : c ≠ 10 := by rintro rfl; exact h1 (by decide)
  simp [sign, hs, h2, h10]

theorem upto_plain {x : UInt8} (hx : x = 32 ∨ x = 59) (r : Str) : ∀ (w : Str), w.any isBad = false → w.any isSpecial = false → hasComment w = false → upto ends (w ++ x :: r) = w.length := by
  intro w
  have hx42 : x ≠ 42 := by rcases hx with rfl | rfl <;> decide
  induction w with
  | nil => intro _ _ _; simp [upto, ends_sep hx]
  | cons c t ih =>
    intro h1 h2 h3
    simp only [List.any_cons, Bool.or_eq_false_iff] at h1 h2
    have he := ends_in (r := r) hx42 h1.1 h2.1 h3
    simp only [hasComment, Bool.or_eq_false_iff] at h3
    simp only [List.cons_append] at he ⊢
    simp only [upto, he, Bool.false_eq_true, if_false, List.length_cons]
    rw [ih h1.2 h2.2 h3.2]

theorem upto_quote (r : Str) : ∀ (w : Str), w.any isBad = false → upto isQuoteOrNl (w ++ 34 :: r) = w.length := by
  intro w
  induction w with
  | nil => intro _; simp [upto, isQuoteOrNl]
  | cons c t ih =>
    intro h
    simp only [List.any_cons, Bool.or_eq_false_iff] at h
    have h1 : isQuoteOrNl (c :: t ++ 34 :: r) = false := by
      simp only [isBad, Bool.or_eq_false_iff, beq_eq_false_iff_ne, decide_eq_false_iff_not] at h
      obtain ⟨⟨⟨h1, _⟩, h2⟩, _⟩ := h
      have h10 : c ≠ 10 := by rintro rfl; exact h1 (by decide)
      simp [isQuoteOrNl, h2, h10]
    simp only [List.cons_append] at h1 ⊢
    simp only [upto, h1, Bool.false_eq_true, if_false, List.length_cons]
    rw [ih h.2]

theorem lex_quoted {w q : Str} (h : quoted w = some q) {x : UInt8} (hx : x = 32 ∨ x = 59) (r : Str) : lexKT (q ++ x :: r) = (lexKT (x :: r)).map ((1, w) :: ·) := by
  unfold quoted at h
  split at h
  · cases h
  · rename_i hb
    have hb : w.any isBad = false := by simpa using hb
    split at h
    · simp only [Option.some.injEq] at h
      subst h
      have hu := upto_quote (x :: r) w hb
      have hq : tok1 (34 :: w ++ [34] ++ x :: r) = .tok 1 w (w.length + 2) := by
        simp only [List.cons_append, List.append_assoc, List.nil_append]
        simp [tok1, begins, hu]
        cases w <;> simp
      have := lex_cons 34 (w ++ [34] ++ x :: r)
      simp only [List.cons_append, List.append_assoc, List.nil_append] at hq this ⊢
      rw [this, hq]
      simp only
      congr 2
      simp [List.drop_append]
    · rename_i hq
      simp only [Option.some.injEq] at h
      subst h
      simp only [Bool.or_eq_true, not_or, Bool.not_eq_true] at hq
      obtain ⟨⟨hn, hs⟩, hc⟩ := hq
      cases w with
      | nil => simp at hn
      | cons c t =>
        have hu := upto_plain hx r (c :: t) hb hs hc
        have hx42 : x ≠ 42 := by rcases hx with rfl | rfl <;> decide
        simp only [List.any_cons, Bool.or_eq_false_iff] at hb hs
        have he := ends_in (r := r) hx42 hb.1 hs.1 hc
        have htk : tok1 (c :: t ++ x :: r) = .tok 1 (c :: t) (c :: t).length := by
          simp only [List.cons_append] at he hu ⊢
          simp only [ends, Bool.or_eq_false_iff, beq_eq_false_iff_ne, bne_eq_false_iff_eq] at he
          obtain ⟨⟨⟨⟨⟨e1, e2⟩, e3⟩, e4⟩, e5⟩, e6⟩ := he
          simp only [tok1, e1, e2, e3, e4, e5, e6, hu]
          simp
        simp only [List.cons_append] at htk ⊢
        rw [lex_cons, htk]
        simp

/-! ### Statements as they are written -/
def blanks (n : Nat) : Str := List.replicate n 32
def joinSp : List Str → Str
  | [] => []
  | [q] => q
  | q :: r => q ++ 32 :: joinSp r
def quotes : List Str → Option (List Str)
  | [] => some []
  | w :: r =>
    match quoted w, quotes r with
    | some q, some qs => some (q :: qs)
    | _, _ => none

mutual
def pr1 : Nat → Node → Option Str
  | d, .mk ws _ b ks =>
    if ws.isEmpty || (!b && !ks.isEmpty) || (b && decide (32 ≤ d)) then none
    else
      match quotes ws with
      | none => none
      | some qs =>
        if b then
          match prs (d + 1) ks with
          | none => none
          | some k => some (blanks (4 * d) ++ joinSp qs ++ [32, 123, 10] ++ k ++ blanks (4 * d) ++ [125, 10])
        else some (blanks (4 * d) ++ joinSp qs ++ [59, 10])
def prs : Nat → List Node → Option Str
  | _, [] => some []
  | d, n :: r =>
    match pr1 d n, prs d r with
    | some a, some b => some (a ++ b)
    | _, _ => none
end

mutual
def flat1 : Node → List KT
  | .mk ws _ b ks => ws.map (fun w => (1, w)) ++ if b then (2, [123]) :: (flats ks ++ [(3, [125])]) else [(4, [59])]
def flats : List Node → List KT
  | [] => []
  | n :: r => flat1 n ++ flats r
end

theorem map_cons_append {α : Type} (l : Option (List α)) (a : α) (b : List α) : (l.map (b ++ ·)).map (a :: ·) = l.map ((a :: b) ++ ·) := by
  cases l <;> simp

theorem lex_words : ∀ (ws : List Str) (qs : List Str), ws ≠ [] → quotes ws = some qs → ∀ (x : UInt8), (x = 32 ∨ x = 59) → ∀ r, lexKT (joinSp qs ++ x :: r) = (lexKT (x :: r)).map (ws.map (fun w => ((1 : Nat), w)) ++ ·)
  | [], _, h, _ => absurd rfl h
  | [w], qs, _, hq => by
    intro x hx r
    simp only [quotes] at hq
    cases hw : quoted w with
    | none => rw [hw] at hq; simp at hq
    | some q =>
      rw [hw] at hq
      simp only [Option.some.injEq] at hq
      subst hq
      simp only [joinSp]
      rw [lex_quoted hw hx r]
      rfl
  | w :: w2 :: ws, qs, _, hq => by
    intro x hx r
    simp only [quotes] at hq
    cases hw : quoted w with
    | none => rw [hw] at hq; simp at hq
    | some q =>
      rw [hw] at hq
      cases hr : quotes (w2 :: ws) with
      | none => simp only [quotes] at hr; rw [hr] at hq; simp at hq
      | some qs2 =>
        have ih := lex_words (w2 :: ws) qs2 (by simp) hr x hx r
        simp only [quotes] at hr
        rw [hr] at hq
        simp only [Option.some.injEq] at hq
        subst hq
        have hne : qs2 ≠ [] := by
          rintro rfl
          cases h2 : quoted w2 <;> simp [h2] at hr
          cases h3 : quotes ws <;> simp [h3] at hr
        have hj : joinSp (q :: qs2) = q ++ 32 :: joinSp qs2 := by
          cases qs2 with
          | nil => exact absurd rfl hne
          | cons a b => rfl
        rw [hj]
        have := lex_quoted hw (x := 32) (.inl rfl) (joinSp qs2 ++ x :: r)
        simp only [List.append_assoc, List.cons_append] at this ⊢
        rw [this, lex_blank, ih, map_cons_append]
        simp

mutual
theorem lex_pr1 : ∀ (n : Node) (d : Nat) (t : Str), pr1 d n = some t → ∀ r, lexKT (t ++ r) = (lexKT r).map (flat1 n ++ ·)
  | .mk ws ps b ks, d, t, h, r => by
    rw [pr1] at h
    split at h
    · cases h
    · rename_i hc
      simp only [Bool.or_eq_true, not_or, Bool.not_eq_true] at hc
      have hne : ws ≠ [] := by rintro rfl; simp at hc
      cases hq : quotes ws with
      | none => rw [hq] at h; cases h
      | some qs =>
        rw [hq] at h
        simp only at h
        split at h
        · rename_i hb
          cases hk : prs (d + 1) ks with
          | none => rw [hk] at h; cases h
          | some k =>
            rw [hk] at h
            simp only [Option.some.injEq] at h
            subst h
            simp only [List.append_assoc, blanks, lex_blanks]
            have := lex_words ws qs hne hq 32 (.inl rfl) (123 :: 10 :: (k ++ (List.replicate (4 * d) 32 ++ (125 :: 10 :: r))))
            simp only [List.cons_append, List.nil_append] at this ⊢
            rw [this, lex_blank, lex_sign (by decide), lex_nl, lex_prs ks (d + 1) k hk, lex_blanks, lex_sign (by decide), lex_nl]
            subst hb
            cases lexKT r <;> simp [flat1, sign]
        · rename_i hb
          have hb : b = false := by simpa using hb
          simp only [Option.some.injEq] at h
          subst h
          subst hb
          simp only [List.append_assoc, blanks, lex_blanks]
          have := lex_words ws qs hne hq 59 (.inr rfl) (10 :: r)
          simp only [List.cons_append, List.nil_append] at this ⊢
          rw [this, lex_sign (by decide), lex_nl]
          cases lexKT r <;> simp [flat1, sign]
theorem lex_prs : ∀ (l : List Node) (d : Nat) (t : Str), prs d l = some t → ∀ r, lexKT (t ++ r) = (lexKT r).map (flats l ++ ·)
  | [], d, t, h, r => by
    simp only [prs, Option.some.injEq] at h
    subst h
    cases hl : lexKT r <;> simp [flats, hl]
  | n :: l, d, t, h, r => by
    rw [prs] at h
    cases h1 : pr1 d n with
    | none => rw [h1] at h; simp at h
    | some a =>
      cases h2 : prs d l with
      | none => rw [h1, h2] at h; simp at h
      | some b =>
        rw [h1, h2] at h
        simp only [Option.some.injEq] at h
        subst h
        rw [List.append_assoc, lex_pr1 n d a h1, lex_prs l d b h2]
        cases lexKT r <;> simp [flats]
end
end Tr
end
section
/- Parsing without rounds; what was written parses back. -/
namespace Tr
open Lx

mutual
theorem pList_mono : ∀ (n m deep : Nat) (op : Pos) (ts : List Tok), 2 * ts.length + 1 ≤ n → n ≤ m → pList m deep op ts = pList n deep op ts
  | 0, _, _, _, _, h, _ => by omega
  | n + 1, 0, _, _, _, _, h => by omega
  | n + 1, m + 1, deep, op, [], _, _ => by rw [pList, pList]
  | n + 1, m + 1, deep, op, t :: ts, h, hm => by
    rw [pList, pList]
    split
    · rfl
    · split
      · rename_i h1
        have h' : 2 * (t :: ts).length ≤ n := by simp at h ⊢; omega
        rw [pStmt_mono n m deep (t :: ts) h' (by omega) ⟨t, ts, rfl, h1⟩]
        have hs := pStmt_some n deep (t :: ts) h' ⟨t, ts, rfl, h1⟩
        cases hp : pStmt n deep (t :: ts) with
        | none => rfl
        | some x =>
          cases x with
          | err p e => rfl
          | ok a r =>
            rw [hp] at hs
            have hl : r.length < (t :: ts).length := by simpa [PR.left] using hs.2
            simp only
            rw [pList_mono n m deep op r (by simp at hl h ⊢; omega) (by omega)]
      · rfl
theorem pStmt_mono : ∀ (n m deep : Nat) (ts : List Tok), 2 * ts.length ≤ n → n ≤ m → (∃ t r, ts = t :: r ∧ t.kind = 1) → pStmt m deep ts = pStmt n deep ts
  | 0, _, _, ts, h, _, he => by obtain ⟨t, r, rfl, _⟩ := he; simp at h
  | n + 1, 0, _, _, _, h, _ => by omega
  | n + 1, m + 1, deep, ts, h, hm, he => by
    obtain ⟨t0, r0, rfl, h0⟩ := he
    have hb := behind_lt (ts := r0) h0
    rw [pStmt, pStmt]
    cases hbe : behind (t0 :: r0) with
    | nil => rfl
    | cons t r =>
      rw [hbe] at hb
      simp only
      split
      · rfl
      · split
        · rfl
        · split
          · split
            · rfl
            · rw [pList_mono n m (deep + 1) t.pos r (by simp at h hb ⊢; omega) (by omega)]
          · rfl
end

def PR.get {α : Type} : Option (PR α) → PR α
  | some x => x
  | none => .err ⟨0, 0⟩ 0

/-- Statements up to the brace that closes them. -/
def pL (deep : Nat) (op : Pos) (ts : List Tok) : PR (List Node) := PR.get (pList (2 * ts.length + 1) deep op ts)
def pS (deep : Nat) (ts : List Tok) : PR (List Node) := PR.get (pStmt (2 * ts.length) deep ts)

theorem get_some {α : Type} {x : Option (PR α)} (h : x.isSome) : x = some (PR.get x) := by cases x <;> simp_all [PR.get]

theorem pList_eq (n deep : Nat) (op : Pos) (ts : List Tok) (h : 2 * ts.length + 1 ≤ n) : pList n deep op ts = some (pL deep op ts) := by
  rw [pList_mono (2 * ts.length + 1) n deep op ts (Nat.le_refl _) h]
  exact get_some (pList_some _ _ _ _ (Nat.le_refl _)).1
theorem pStmt_eq (n deep : Nat) (ts : List Tok) (h : 2 * ts.length ≤ n) (he : ∃ t r, ts = t :: r ∧ t.kind = 1) : pStmt n deep ts = some (pS deep ts) := by
  rw [pStmt_mono (2 * ts.length) n deep ts (Nat.le_refl _) h he]
  exact get_some (pStmt_some _ _ _ (Nat.le_refl _) he).1

theorem pL_left (deep : Nat) (op : Pos) (ts : List Tok) {a : List Node} {r : List Tok} (h : pL deep op ts = .ok a r) : r.length ≤ ts.length := by
  have := (pList_some (2 * ts.length + 1) deep op ts (Nat.le_refl _)).2
  rw [pList_eq _ _ _ _ (Nat.le_refl _), h] at this
  exact this
theorem pS_left (deep : Nat) (ts : List Tok) (he : ∃ t r, ts = t :: r ∧ t.kind = 1) {a : List Node} {r : List Tok} (h : pS deep ts = .ok a r) : r.length < ts.length := by
  have := (pStmt_some (2 * ts.length) deep ts (Nat.le_refl _) he).2
  rw [pStmt_eq _ _ _ (Nat.le_refl _) he, h] at this
  exact this

theorem pL_nil (deep : Nat) (op : Pos) : pL deep op [] = if deep > 0 then .err op 71 else .ok [] [] := by
  unfold pL; rw [pList]; rfl
theorem pL_cons (deep : Nat) (op : Pos) (t : Tok) (ts : List Tok) : pL deep op (t :: ts) =
    if t.kind = 3 then (if deep > 0 then .ok [] ts else .err t.pos 130)
    else if t.kind = 1 then
      match pS deep (t :: ts) with
      | .ok a r =>
        match pL deep op r with
        | .ok b r2 => .ok (a ++ b) r2
        | x => x
      | x => x
    else .err t.pos 130 := by
  conv => lhs; unfold pL
  rw [pList]
  split
  · rfl
  · split
    · rename_i h1
      have he : ∃ t' r, t :: ts = t' :: r ∧ t'.kind = 1 := ⟨t, ts, rfl, h1⟩
      rw [pStmt_eq _ _ _ (by simp) he]
      cases hp : pS deep (t :: ts) with
      | err p e => rfl
      | ok a r =>
        have := pS_left deep _ he hp
        simp only
        rw [pList_eq _ _ _ _ (by simp at this ⊢; omega)]
        cases pL deep op r <;> rfl
    · rfl
theorem pS_cons (deep : Nat) (t0 : Tok) (r0 : List Tok) (h0 : t0.kind = 1) : pS deep (t0 :: r0) =
    match behind (t0 :: r0) with
    | [] => .err t0.pos 71
    | t :: r =>
      if t.kind = 5 then
        match behind r with
        | [] => .err t0.pos 71
        | u :: r2 =>
          if u.kind = 6 ∧ wordsOf r ≠ [] then
            match r2 with
            | [] => .err t0.pos 71
            | v :: r3 => if v.kind = 4 then .ok (leaves (wordsOf (t0 :: r0)) (wordsOf r)) r3 else .err v.pos 130
          else .err u.pos 130
      else if t.kind = 4 then .ok [leafOf (wordsOf (t0 :: r0))] r
      else if t.kind = 2 then
        if deep = 32 then .err t.pos 140
        else
          match pL (deep + 1) t.pos r with
          | .ok k r2 => .ok [.mk ((wordsOf (t0 :: r0)).map (·.text)) ((wordsOf (t0 :: r0)).map (·.pos)) true k] r2
          | .err p e => .err p e
      else .err t.pos 130 := by
  have hb := behind_lt (ts := r0) h0
  conv => lhs; unfold pS
  rw [List.length_cons, Nat.mul_add, Nat.mul_one, pStmt]
  cases hbe : behind (t0 :: r0) with
  | nil => rfl
  | cons t r =>
    rw [hbe] at hb
    simp only
    split
    · cases behind r with
      | nil => rfl
      | cons u r2 =>
        simp only
        split
        · cases r2 with
          | nil => rfl
          | cons v r3 => simp only; split <;> rfl
        · rfl
    · split
      · rfl
      · split
        · split
          · rfl
          · rw [pList_eq _ _ _ _ (by simp at hb ⊢; omega)]
            cases pL (deep + 1) t.pos r <;> rfl
        · rfl

theorem parseToks_eq (ts : List Tok) : parseToks ts = match pL 0 ⟨0, 0⟩ ts with | .ok a _ => .ok a | .err p e => .err p e := by
  unfold parseToks
  rw [pList_eq _ _ _ _ (Nat.le_refl _)]
  cases pL 0 ⟨0, 0⟩ ts <;> rfl

/-! ### The same, places aside -/
mutual
def same1 : Node → Node → Bool
  | .mk ws _ b ks, .mk ws' _ b' ks' => b == b' && ws == ws' && sames ks ks'
def sames : List Node → List Node → Bool
  | [], [] => true
  | a :: l, b :: m => same1 a b && sames l m
  | _, _ => false
end

theorem sames_append : ∀ (a b c d : List Node), sames a c = true → sames b d = true → sames (a ++ b) (c ++ d) = true
  | [], b, [], d, _, h => h
  | [], _, _ :: _, _, h, _ => by simp [sames] at h
  | _ :: _, _, [], _, h, _ => by simp [sames] at h
  | x :: a, b, y :: c, d, h1, h2 => by
    simp only [sames, Bool.and_eq_true, List.cons_append] at h1 ⊢
    exact ⟨h1.1, sames_append a b c d h1.2 h2⟩

theorem span_words : ∀ (ws : List Str) (ts : List Tok) (k : Nat) (tx : Str) (more : List KT), k ≠ 1 → ts.map ktOf = ws.map (fun w => ((1 : Nat), w)) ++ (k, tx) :: more →
    ∃ t r, behind ts = t :: r ∧ t.kind = k ∧ r.map ktOf = more ∧ (wordsOf ts).map (·.text) = ws
  | [], [], _, _, _, _, h => by simp at h
  | [], t :: ts, k, tx, more, hk, h => by
    simp only [List.map_nil, List.nil_append, List.map_cons, List.cons.injEq] at h
    obtain ⟨h1, h2⟩ := h
    have hkd : t.kind = k := congrArg Prod.fst h1
    have hp : ¬ plain t = true := by simp [plain, hkd, hk]
    refine ⟨t, ts, ?_, hkd, h2, ?_⟩
    · exact List.dropWhile_cons_of_neg hp
    · unfold wordsOf; rw [List.takeWhile_cons_of_neg hp]; rfl
  | w :: ws, [], _, _, _, _, h => by simp at h
  | w :: ws, t :: ts, k, tx, more, hk, h => by
    simp only [List.map_cons, List.cons_append, List.cons.injEq] at h
    obtain ⟨h1, h2⟩ := h
    have hkd : t.kind = 1 := congrArg Prod.fst h1
    have htx : t.text = w := congrArg Prod.snd h1
    have hp : plain t = true := by simp [plain, hkd]
    obtain ⟨t', r, a, b, c, d⟩ := span_words ws ts k tx more hk h2
    refine ⟨t', r, ?_, b, c, ?_⟩
    · unfold behind at a ⊢; rw [List.dropWhile_cons_of_pos hp]; exact a
    · unfold wordsOf at d ⊢; rw [List.takeWhile_cons_of_pos hp]; simp [d, htx]

mutual
theorem pS_back : ∀ (x : Node) (deep : Nat) (s : Str) (ts : List Tok) (more : List KT), pr1 deep x = some s → ts.map ktOf = flat1 x ++ more →
    ∃ t0 r0, ts = t0 :: r0 ∧ t0.kind = 1 ∧ ∃ y r, pS deep ts = .ok [y] r ∧ same1 x y = true ∧ r.map ktOf = more
  | .mk ws ps b ks, deep, s, ts, more, h, he => by
    rw [pr1] at h
    split at h
    · cases h
    · rename_i hc
      simp only [Bool.or_eq_true, not_or, Bool.not_eq_true] at hc
      cases ws with
      | nil => simp at hc
      | cons w ws =>
        cases ts with
        | nil => simp [flat1] at he
        | cons t0 r0 =>
          have h0 : t0.kind = 1 := by
            simp only [flat1, List.map_cons, List.cons_append, List.cons.injEq] at he
            exact congrArg Prod.fst he.1
          refine ⟨t0, r0, rfl, h0, ?_⟩
          rw [pS_cons deep t0 r0 h0]
          cases b with
          | false =>
            simp only [flat1, Bool.false_eq_true, if_false, List.append_assoc, List.cons_append, List.nil_append] at he
            obtain ⟨t, r, hb, hk, hm, hw⟩ := span_words (w :: ws) (t0 :: r0) 4 [59] more (by decide) (by simpa using he)
            rw [hb]
            have hks : ks = [] := by
              have := hc.1.2
              simpa using this
            subst hks
            refine ⟨leafOf (wordsOf (t0 :: r0)), r, ?_, ?_, hm⟩
            · simp [hk]
            · simp [same1, leafOf, hw, sames]
          | true =>
            simp only [flat1, if_true, List.append_assoc, List.cons_append, List.nil_append] at he
            obtain ⟨t, r, hb, hk, hm, hw⟩ := span_words (w :: ws) (t0 :: r0) 2 [123] _ (by decide) (by simpa using he)
            rw [hb]
            have hd : ¬ 32 ≤ deep := by
              have := hc.2
              simpa using this
            cases hq : quotes (w :: ws) with
            | none => rw [hq] at h; cases h
            | some qs =>
              rw [hq] at h
              simp only [if_true] at h
              cases hk2 : prs (deep + 1) ks with
              | none => rw [hk2] at h; cases h
              | some k =>
                obtain ⟨y, r2, e1, e2, e3⟩ := pL_back ks (deep + 1) k t.pos r ((3, [125]) :: more) hk2 hm
                  (by
                    intro r3 h3
                    cases r3 with
                    | nil => simp at h3
                    | cons u r4 =>
                      simp only [List.map_cons, List.cons.injEq] at h3
                      have : u.kind = 3 := congrArg Prod.fst h3.1
                      rw [pL_cons, if_pos this, if_pos (by omega)]
                      exact ⟨_, rfl⟩)
                obtain ⟨r3, h3, e4⟩ := e3
                cases r3 with
                | nil => simp at h3
                | cons u r4 =>
                  simp only [List.map_cons, List.cons.injEq] at h3
                  have hu : u.kind = 3 := congrArg Prod.fst h3.1
                  rw [pL_cons, if_pos hu, if_pos (by omega)] at e4
                  injection e4 with _ e4
                  subst e4
                  refine ⟨.mk ((wordsOf (t0 :: r0)).map (·.text)) ((wordsOf (t0 :: r0)).map (·.pos)) true y, r4, ?_, ?_, h3.2⟩
                  · simp only [hk]
                    rw [if_neg (by decide), if_neg (by decide), if_pos trivial, if_neg (by omega), e1]
                  · simp [same1, hw, e2]
theorem pL_back : ∀ (l : List Node) (deep : Nat) (s : Str) (op : Pos) (ts : List Tok) (more : List KT), prs deep l = some s → ts.map ktOf = flats l ++ more →
    (∀ r, r.map ktOf = more → ∃ r2, pL deep op r = .ok [] r2) →
    ∃ y r2, pL deep op ts = .ok y r2 ∧ sames l y = true ∧ ∃ r, r.map ktOf = more ∧ pL deep op r = .ok [] r2
  | [], deep, s, op, ts, more, _, he, hend => by
    obtain ⟨r2, h2⟩ := hend ts (by simpa [flats] using he)
    exact ⟨[], r2, h2, by simp [sames], ts, by simpa [flats] using he, h2⟩
  | x :: l, deep, s, op, ts, more, h, he, hend => by
    rw [prs] at h
    cases h1 : pr1 deep x with
    | none => rw [h1] at h; simp at h
    | some a =>
      cases h2 : prs deep l with
      | none => rw [h1, h2] at h; simp at h
      | some b =>
        obtain ⟨t0, r0, rfl, h0, y, r, e1, e2, e3⟩ := pS_back x deep a ts (flats l ++ more) h1 (by simpa [flats] using he)
        obtain ⟨z, r2, f1, f2, f3⟩ := pL_back l deep b op r more h2 e3 hend
        refine ⟨y :: z, r2, ?_, ?_, f3⟩
        · rw [pL_cons, if_neg (by omega), if_pos h0, e1]
          simp only [f1]
          rfl
        · simp [sames, e2, f2]
end

/-- Tokens that are those of what was written parse back. -/
theorem parseToks_back {l : List Node} {s : Str} {ts : List Tok} (h : prs 0 l = some s) (he : ts.map ktOf = flats l) : ∃ y, parseToks ts = .ok y ∧ sames l y = true := by
  obtain ⟨y, r2, e1, e2, _⟩ := pL_back l 0 s ⟨0, 0⟩ ts [] h (by simpa using he) (by
    intro r hr
    have : r = [] := by simpa using hr
    subst this
    exact ⟨[], by rw [pL_nil]; rfl⟩)
  exact ⟨y, by rw [parseToks_eq, e1], e2⟩
end Tr
end
section
/- The walks of package tree's reader. -/
namespace Go.Vw.Wm
open Go Go.RowKit Go.Abs Go.Vw Lx Tr
set_option maxRecDepth 20000
set_option linter.unusedSimpArgs false
set_option linter.unusedVariables false

abbrev Pos := Lx.Pos
abbrev Tok := Lx.Tok
abbrev Node := Tr.Node
def encP (p : Pos) : List V := [.int .i64 p.line, .int .i64 p.col]
def encT (t : Tok) : List V := .int .u8 t.kind :: .str t.text :: encP t.pos
def encToks (l : List Tok) : V := .vec false (l.map encT)
/-- The state of a reader. -/
structure Rd where
  toks : List Tok
  err : Int
  pos : Pos
def Rd.enc (r : Rd) : List V := encToks r.toks :: .int .i64 r.err :: encP r.pos
@[simp] theorem encP_len (p : Pos) : (encP p).length = 2 := rfl
@[simp] theorem encT_len (t : Tok) : (encT t).length = 4 := rfl
@[simp] theorem encP_lows (n : Nat) (p : Pos) : V.lows n (encP p) = true := (rfl)
@[simp] theorem encT_lows (n : Nat) (t : Tok) : V.lows n (encT t) = true := (rfl)

variable {P : Program} {K : Knobs} {X : ExtV}
def S_next (P : Program) (K : Knobs) (X : ExtV) (f : Nat) : Prop := ∀ (fl : Nat) (σ : St) (x : Nat) (r : Rd), fl ≤ σ.size → σ.get x = some (.cells r.enc) →
    Big P K X (.call fl f [.ptr x 0] σ (.int .u8 (match r.toks with | [] => 0 | t :: _ => t.kind)) σ)
theorem next_ok {f : Nat} {q : Bool} (H : Has P K f q c_tree_reader_next) : S_next P K X f := by
  intro fl σ x r hfl hx
  refine H_callq H (Nat.le_of_ble_eq_true rfl) hfl fun fl' h1 h2 => ?_
  obtain ⟨toks, e, p⟩ := r
  cases toks with
  | nil => simp [c_tree_reader_next, hx, Rd.enc, encToks]
  | cons t l =>
    have : ¬ ((l.length : Int) + 1 = 0) := by omega
    simp [c_tree_reader_next, hx, Rd.enc, encToks, this, encT]

/-- A token is taken off. -/
def S_off (P : Program) (K : Knobs) (X : ExtV) (f : Nat) : Prop := ∀ (fl : Nat) (σ : St) (x : Nat) (r : Rd) (t : Tok) (l : List Tok), fl ≤ x → σ.pin ≤ σ.size → σ.get x = some (.cells r.enc) → r.toks = t :: l →
    Big P K X (.call fl f [.ptr x 0] σ (.agg (encT t)) (σ.put x (.cells ({ r with toks := l } : Rd).enc)))
theorem off_ok {f : Nat} (H : Has P K f false c_tree_reader_off) : S_off P K X f := by
  intro fl σ x r t l hfl hp hx hr
  have hxs := get_lt hx
  obtain ⟨toks, e, p⟩ := r
  subst hr
  refine H_call H (Nat.le_of_ble_eq_true rfl) ?_
  simp [c_tree_reader_off, hx, Rd.enc, encToks, encT, encP, near hfl hxs, hp]

/-- The first error counts. -/
def Rd.fail (r : Rd) (e : Int) (p : Pos) : Rd := if r.err = 0 then { r with err := e, pos := p } else r
def S_fail (P : Program) (K : Knobs) (X : ExtV) (f : Nat) : Prop := ∀ (fl : Nat) (σ : St) (x : Nat) (r : Rd) (e : Int) (p : Pos), fl ≤ x → σ.pin ≤ σ.size → σ.get x = some (.cells r.enc) →
    Big P K X (.call fl f [.ptr x 0, .int .i64 e, .agg (encP p)] σ (.tuple []) (σ.put x (.cells (r.fail e p).enc)))
theorem fail_ok {f : Nat} (H : Has P K f false c_tree_reader_fail) : S_fail P K X f := by
  intro fl σ x r e p hfl hp hx
  have hxs := get_lt hx
  obtain ⟨toks, er, rp⟩ := r
  refine H_call H (Nat.le_of_ble_eq_true rfl) ?_
  by_cases h : er = 0
  · simp [c_tree_reader_fail, hx, Rd.enc, encToks, encP, near hfl hxs, hp, h, Rd.fail]
  · simp [c_tree_reader_fail, hx, Rd.enc, encToks, encP, near hfl hxs, hp, h, Rd.fail]
    exact (put_get hx).symm

/-- Words as they are gathered. -/
def wordCell (w : List UInt8) : List V := [.str w]
@[simp] theorem wordCell_lows (n : Nat) (w : List UInt8) : V.lows n (wordCell w) = true := (rfl)
@[simp] theorem wordCell_len (w : List UInt8) : (wordCell w).length = 1 := (rfl)
def wordsNode (acc : List Tok) : List V := [.vec true (acc.map fun t => wordCell t.text), .vec true (acc.map fun t => encP t.pos), .bool false, .vec true []]
theorem words_loop {wm : TypeId → Bool} {n fl : Nat} {Q : Ex → VEnv → St → Prop} {k : List Lf} {fn fo : Nat} (hn : S_next P K X fn) (ho : S_off P K X fo) {σ0 : St} {x : Nat} {c0 : VObj} (hfl : fl ≤ x) (hp : σ0.pin ≤ σ0.size) (hx : σ0.get x = some c0) :
    ∀ (r : Rd) (acc : List Tok) (ρ : VEnv), ρ 0 = .ptr x 0 → ρ 2 = .ptr σ0.size 0 → acc.length + r.toks.length ≤ 16777216 →
      (∀ ρ', ρ' 0 = .ptr x 0 → ρ' 2 = .ptr σ0.size 0 → contM P K X wm n fl true Q k (.exit 0) ρ' ((σ0.put x (.cells ({ r with toks := r.toks.dropWhile plain } : Rd).enc)).push (.cells (wordsNode (acc ++ r.toks.takeWhile plain))))) →
      loopM P K X wm n fl true Q (l_tree_reader_words_0 fn fo) k ρ ((σ0.put x (.cells r.enc)).push (.cells (wordsNode acc))) := by
  have hxs := get_lt hx
  intro r
  obtain ⟨toks, e, p⟩ := r
  induction toks with
  | nil =>
    intro acc ρ h0 h2 hb hQ
    refine loopM_at (l_tree_reader_words_0.eq_1 _ _) ?_
    simp [h0]
    refine callM_of (hn _ _ _ ⟨[], e, p⟩ (by simp; omega) (by simp [near hfl hxs, hx])) ?_
    simp [near hfl hxs, pinned hp]
    refine contM_to (hQ _ ?_ ?_) ?_ <;> simp [h0, h2, near hfl hxs]
  | cons t l ih =>
    intro acc ρ h0 h2 hb hQ
    refine loopM_at (l_tree_reader_words_0.eq_1 _ _) ?_
    simp [h0]
    refine callM_of (hn _ _ _ ⟨t :: l, e, p⟩ (by simp; omega) (by simp [near hfl hxs, hx])) ?_
    by_cases ht : t.kind = 1
    · have hb' : acc.length + 1 ≤ 33554432 := by simp at hb; omega
      simp [near hfl hxs, pinned hp, ht, h0]
      refine callM_of (ho _ _ _ ⟨t :: l, e, p⟩ t l hfl (by simp [pinned hp]) (by simp [near hfl hxs, hx]) rfl) ?_
      simp [near hfl hxs, pinned hp, ht, h0, h2, encT, encP, wordsNode, wordCell, hb']
      refine loopM_to (ih (acc ++ [t]) _ ?_ ?_ ?_ ?_) ?_
      · simp [h0, near hfl hxs]
      · simp [h2, near hfl hxs]
      · simp at hb ⊢; omega
      · intro ρ' h0' h2'
        have := hQ ρ' h0' h2'
        simpa [ht, plain] using this
      · simp [wordsNode, wordCell, encP]
    · simp [near hfl hxs, pinned hp, ht]
      have h1 : ¬ ((t.kind : Int) = 1) := by omega
      simp [near hfl hxs, pinned hp, ht, h1]
      refine contM_to (hQ _ ?_ ?_) ?_ <;> simp [h0, h2, near hfl hxs, ht, plain]

mutual
def encN : Node → List V
  | .mk w p b k => [.vec false (w.map wordCell), .vec false (p.map encP), .bool b, .vec false (encNs k)]
def encNs : List Node → List (List V)
  | [] => []
  | n :: l => encN n :: encNs l
end
mutual
@[simp] theorem encN_lows (n : Nat) : ∀ (x : Node), V.lows n (encN x) = true
  | .mk w p b k => by simp [encN, encNs_lowss n k]
@[simp] theorem encNs_lowss (n : Nat) : ∀ (l : List Node), V.lowss n (encNs l) = true
  | [] => rfl
  | x :: l => by simp [encNs, encN_lows n x, encNs_lowss n l]
end
@[simp] theorem encN_len (x : Node) : (encN x).length = 4 := by cases x; rfl
theorem encNs_map : ∀ (l : List Node), encNs l = l.map encN
  | [] => rfl
  | x :: l => by simp [encNs, encNs_map l]
def Rd.words (r : Rd) : Node := leafOf (wordsOf r.toks)
def Rd.past (r : Rd) : Rd := { r with toks := behind r.toks }
def S_words (P : Program) (K : Knobs) (X : ExtV) (f : Nat) : Prop := ∀ (fl : Nat) (σ : St) (x : Nat) (r : Rd), fl ≤ x → σ.pin ≤ σ.size → σ.get x = some (.cells r.enc) → r.toks.length ≤ 16777216 →
    Big P K X (.call fl f [.ptr x 0] σ (.agg (encN r.words)) (σ.put x (.cells r.past.enc)))
theorem words_ok {f fn fo : Nat} (hn : S_next P K X fn) (ho : S_off P K X fo) (H : Has P K f false (c_tree_reader_words fn fo)) : S_words P K X f := by
  intro fl σ x r hfl hp hx hb
  have hxs := get_lt hx
  refine H_call H (Nat.le_of_ble_eq_true rfl) ?_
  simp [c_tree_reader_words]
  refine loopM_to (words_loop hn ho hfl hp hx r [] _ ?_ ?_ ?_ ?_) ?_
  · simp
  · simp
  · simpa using hb
  · intro ρ' h0 h2
    simp [wordsNode, h2, near hfl hxs, pinned hp, Rd.words, Rd.past, encN, encNs, leafOf, wordsOf, behind, Function.comp_def]
  · simp [wordsNode, put_get hx]
end Go.Vw.Wm
end
section
/- The walks of package lex. -/
namespace Go.Vw.Wm
open Go Go.RowKit Go.Abs Go.Vw Lx Tr
set_option maxRecDepth 20000
set_option linter.unusedSimpArgs false
set_option linter.unusedVariables false
variable {P : Program} {K : Knobs} {X : ExtV}

theorem u8_eq {c d : UInt8} : c = d ↔ (c.toNat : Int) = (d.toNat : Int) := by
  constructor
  · intro e; rw [e]
  · intro e; exact UInt8.toNat_inj.1 (by omega)
theorem u8_lt {c d : UInt8} : c < d ↔ (c.toNat : Int) < (d.toNat : Int) := by
  rw [UInt8.lt_iff_toNat_lt]; omega
theorem u8_10 {c : UInt8} : c = 10 ↔ (c.toNat : Int) = 10 := u8_eq
theorem u8_32 {c : UInt8} : c < 32 ↔ (c.toNat : Int) < 32 := u8_lt
theorem u8_126 {c : UInt8} : 126 < c ↔ 126 < (c.toNat : Int) := u8_lt

section
variable {wm : TypeId → Bool} {n fl : Nat} {Q : Ex → VEnv → St → Prop} {k : List Lf} {σ0 : St} {s : Str}
theorem check_loop (hfl : fl ≤ σ0.size) (hp : σ0.pin ≤ σ0.size) (hs : s.length ≤ 65536)
    (hE : ∀ ρ' at', ρ' 2 = .ptr σ0.size 0 → checkL ⟨1, 1⟩ s = (⟨0, 0⟩, 0) → contM P K X wm n fl true Q k (.exit 0) ρ' ((σ0.push (.cells (encP ⟨0, 0⟩))).push (.cells (encP at'))))
    (hR : ∀ ρ' at' p e, ρ' 2 = .ptr σ0.size 0 → ρ' 3 = .int .i64 e → checkL ⟨1, 1⟩ s = (p, e) → contM P K X wm n fl true Q k .ret ρ' ((σ0.push (.cells (encP p))).push (.cells (encP at')))) :
    ∀ (l pre : Str) (p : Pos) (ρ : VEnv), s = pre ++ l → checkL ⟨1, 1⟩ s = checkL p l → 0 ≤ p.line → p.line ≤ pre.length + 1 → 0 ≤ p.col → p.col ≤ pre.length + 1 → ρ 0 = .str s → ρ 2 = .ptr σ0.size 0 → ρ 4 = .ptr (σ0.size + 1) 0 → ρ 12 = .int .i64 s.length → ρ 13 = .int .i64 pre.length →
      loopM P K X wm n fl true Q l_lex_check_0 k ρ ((σ0.push (.cells (encP ⟨0, 0⟩))).push (.cells (encP p))) := by
  intro l
  induction l with
  | nil =>
    intro pre p ρ hi hc b1 b2 b3 b4 r0 r2 r4 r12 r13
    rw [List.append_nil] at hi
    subst hi
    refine loopM_at l_lex_check_0.eq_1 ?_
    simp [r12, r13, pinned hp]
    refine contM_to (hE _ p (by simp [r2]) (by rw [hc]; rfl)) ?_
    simp
  | cons c t ih =>
    intro pre p ρ hi hc b1 b2 b3 b4 r0 r2 r4 r12 r13
    have hlen : pre.length < s.length := by rw [hi]; simp
    have hget : s[pre.length]? = some c := by rw [hi]; simp
    have hlt : (pre.length : Int) < (s.length : Int) := by omega
    refine loopM_at l_lex_check_0.eq_1 ?_
    have hL : checkL p (c :: t) = if p.line > 4096 then (p, 3) else if c = 10 then checkL ⟨p.line + 1, 1⟩ t else if c < 32 ∨ c > 126 then (p, 70) else checkL ⟨p.line, p.col + 1⟩ t := rfl
    rw [hL] at hc
    have hgi : s[pre.length] = c := by
      rw [List.getElem?_eq_getElem hlen] at hget
      exact Option.some.inj hget
    have hw : IntKind.i64.wrap ((pre.length : Int) + 1) = (pre.length : Int) + 1 := wrap_i64 (by omega) (by omega)
    by_cases h1 : 4096 < p.line
    · rw [if_pos h1] at hc
      simp [r12, r13, r0, r4, r2, hlt, hlen, hget, pinned hp, nearq hfl, encP, h1]
      refine contM_to (hR _ p p 3 (by simp [r2]) (by simp) hc) ?_
      simp [encP]
    · rw [if_neg h1] at hc
      by_cases h10 : c = 10
      · rw [if_pos h10] at hc
        have hwl : IntKind.i64.wrap (p.line + 1) = p.line + 1 := wrap_i64 (by omega) (by omega)
        have h10' := u8_10.1 h10
        simp [r12, r13, r0, r4, r2, hlt, hlen, hgi, pinned hp, nearq hfl, encP, h1, h10', hwl, hw]
        refine loopM_to (ih (pre ++ [c]) ⟨p.line + 1, 1⟩ _ (by rw [hi]; simp) hc (by simp; omega) (by simp; omega) (by simp) (by simp; omega) ?_ ?_ ?_ ?_ ?_) ?_
        all_goals simp [r0, r2, r4, r12, encP]
      · rw [if_neg h10] at hc
        have h10' : ¬ ((c.toNat : Int) = 10) := fun e => h10 (u8_10.2 e)
        by_cases hb : c < 32 ∨ c > 126
        · rw [if_pos hb] at hc
          have hfin : ∀ ρ', ρ' 2 = .ptr σ0.size 0 → ρ' 3 = .int .i64 70 → contM P K X wm n fl true Q k .ret ρ' ((σ0.push (.cells (encP p))).push (.cells (encP p))) := fun ρ' q1 q2 => hR ρ' p p 70 q1 q2 hc
          by_cases hb1 : c < 32
          · have hb1' := u8_32.1 hb1
            simp [r12, r13, r0, r4, r2, hlt, hlen, hgi, pinned hp, nearq hfl, encP, h1, h10', hb1']
            exact hfin _ (by simp [r2]) (by simp)
          · have hb1' : ¬ ((c.toNat : Int) < 32) := fun e => hb1 (u8_32.2 e)
            have hb2' := u8_126.1 (hb.resolve_left hb1)
            simp [r12, r13, r0, r4, r2, hlt, hlen, hgi, pinned hp, nearq hfl, encP, h1, h10', hb1', hb2']
            exact hfin _ (by simp [r2]) (by simp)
        · rw [if_neg hb] at hc
          have hb1' : ¬ ((c.toNat : Int) < 32) := fun e => hb (.inl (u8_32.2 e))
          have hb2' : ¬ (126 < (c.toNat : Int)) := fun e => hb (.inr (u8_126.2 e))
          have hwl : IntKind.i64.wrap (p.col + 1) = p.col + 1 := wrap_i64 (by omega) (by omega)
          simp [r12, r13, r0, r4, r2, hlt, hlen, hgi, pinned hp, nearq hfl, encP, h1, h10', hb1', hb2', hwl, hw]
          refine loopM_to (ih (pre ++ [c]) ⟨p.line, p.col + 1⟩ _ (by rw [hi]; simp) hc (by simp; omega) (by simp; omega) (by simp; omega) (by simp; omega) ?_ ?_ ?_ ?_ ?_) ?_
          all_goals simp [r0, r2, r4, r12, encP]
end
def S_check (P : Program) (K : Knobs) (X : ExtV) (f : Nat) : Prop := ∀ (fl : Nat) (σ : St) (s : Str), fl ≤ σ.size → σ.pin ≤ σ.size →
    Big P K X (.call fl f [.str s] σ (.tuple [.agg (encP (check s).1), .int .i64 (check s).2]) σ)
theorem check_ok {f : Nat} (H : Has P K f false c_lex_check) : S_check P K X f := by
  intro fl σ s hfl hp
  refine H_call H (Nat.le_of_ble_eq_true rfl) ?_
  unfold Lx.check
  by_cases h : s.length > 65536
  · rw [if_pos h]
    have h' : (65536 : Int) < s.length := by omega
    simp [c_lex_check, h', nearq hfl, pinned hp, encP]
  · rw [if_neg h]
    have h' : ¬ ((65536 : Int) < s.length) := by omega
    simp [c_lex_check, h', nearq hfl, pinned hp]
    refine loopM_to (check_loop (σ0 := σ) (s := s) hfl hp (by omega) ?_ ?_ s [] ⟨1, 1⟩ _ rfl rfl (by simp) (by simp) (by simp) (by simp) ?_ ?_ ?_ ?_ ?_) ?_
    · intro ρ' at' r2 hc
      rw [hc]
      simp [r2, nearq hfl, pinned hp, encP]
    · intro ρ' at' p e r2 r3 hc
      rw [hc]
      simp [r2, r3, nearq hfl, pinned hp, encP]
    all_goals simp [encP]

def encR (rest : Str) (p : Pos) : List V := .str rest :: encP p
def posOK (p : Pos) (n : Nat) : Prop := 0 ≤ p.line ∧ 0 ≤ p.col ∧ p.line + n ≤ 1099511627776 ∧ p.col + n ≤ 1099511627776
theorem posOK.adv {p : Pos} {n : Nat} (h : posOK p (n + 1)) (c : UInt8) : posOK (adv p c) n := by
  unfold posOK at h ⊢
  unfold Lx.adv
  split <;> simp <;> omega
theorem posOK.advs : ∀ (l : Str) {p : Pos} {n : Nat}, posOK p (l.length + n) → posOK (advs p l) n
  | [], p, n, h => by simpa [Lx.advs] using h
  | c :: l, p, n, h => by
    have := posOK.advs l (p := Lx.adv p c) (n := n) (posOK.adv (by rw [show l.length + n + 1 = (c :: l).length + n by simp; omega]; exact h) c)
    exact this
section
variable {wm : TypeId → Bool} {n fl : Nat} {Q : Ex → VEnv → St → Prop} {k : List Lf} {σ0 : St} {x : Nat} {c0 : VObj} {s rest : Str}
theorem take_loop (hfl : fl ≤ x) (hp : σ0.pin ≤ σ0.size) (hx : σ0.get x = some c0) (hs : s.length ≤ 1099511627776)
    {p0 : Pos} (hE : ∀ ρ', ρ' 5 = .str s → contM P K X wm n fl true Q k (.exit 0) ρ' (σ0.put x (.cells (encR rest (advs p0 s))))) :
    ∀ (l pre : Str) (p : Pos) (ρ : VEnv), s = pre ++ l → advs p l = advs p0 s → posOK p l.length → ρ 0 = .ptr x 0 → ρ 5 = .str s → ρ 22 = .int .i64 s.length → ρ 23 = .int .i64 pre.length →
      loopM P K X wm n fl true Q l_lex_reader_take_0 k ρ (σ0.put x (.cells (encR rest p))) := by
  have hxs := get_lt hx
  intro l
  induction l with
  | nil =>
    intro pre p ρ hi ha hb r0 r5 r22 r23
    rw [List.append_nil] at hi
    subst hi
    refine loopM_at l_lex_reader_take_0.eq_1 ?_
    simp [r22, r23, pinned hp]
    refine contM_to (hE _ (by simp [r5])) ?_
    rw [← ha]
    simp [Lx.advs]
  | cons c t ih =>
    intro pre p ρ hi ha hb r0 r5 r22 r23
    have hlen : pre.length < s.length := by rw [hi]; simp
    have hget : s[pre.length]? = some c := by rw [hi]; simp
    have hgi : s[pre.length] = c := by
      rw [List.getElem?_eq_getElem hlen] at hget
      exact Option.some.inj hget
    have hlt : (pre.length : Int) < (s.length : Int) := by omega
    have hw : IntKind.i64.wrap ((pre.length : Int) + 1) = (pre.length : Int) + 1 := wrap_i64 (by omega) (by omega)
    have hb' := hb
    unfold posOK at hb'
    have hwl : IntKind.i64.wrap (p.line + 1) = p.line + 1 := wrap_i64 (by omega) (by omega)
    have hwc : IntKind.i64.wrap (p.col + 1) = p.col + 1 := wrap_i64 (by omega) (by omega)
    refine loopM_at l_lex_reader_take_0.eq_1 ?_
    by_cases h10 : c = 10
    · have h10' := u8_10.1 h10
      simp [r22, r23, r0, r5, hlt, hlen, hgi, hx, near hfl hxs, pinned hp, encR, encP, hwl, hwc, hw, h10']
      refine loopM_to (ih (pre ++ [c]) (adv p c) _ (by rw [hi]; simp) ha (hb.adv c) ?_ ?_ ?_ ?_) ?_
      all_goals simp [r0, r5, r22, near hfl hxs, encR, encP, Lx.adv, h10]
    · have h10' : ¬ ((c.toNat : Int) = 10) := fun e => h10 (u8_10.2 e)
      simp [r22, r23, r0, r5, hlt, hlen, hgi, hx, near hfl hxs, pinned hp, encR, encP, hwl, hwc, hw, h10']
      refine loopM_to (ih (pre ++ [c]) (adv p c) _ (by rw [hi]; simp) ha (hb.adv c) ?_ ?_ ?_ ?_) ?_
      all_goals simp [r0, r5, r22, near hfl hxs, encR, encP, Lx.adv, h10]
end
def S_take (P : Program) (K : Knobs) (X : ExtV) (f : Nat) : Prop := ∀ (fl : Nat) (σ : St) (x : Nat) (rest : Str) (p : Pos) (m : Nat), fl ≤ x → σ.pin ≤ σ.size → σ.get x = some (.cells (encR rest p)) → m ≤ rest.length → rest.length ≤ 16777216 → posOK p m →
    Big P K X (.call fl f [.ptr x 0, .int .i64 m] σ (.str (rest.take m)) (σ.put x (.cells (encR (rest.drop m) (advs p (rest.take m))))))
theorem take_ok {f : Nat} (H : Has P K f false c_lex_reader_take) : S_take P K X f := by
  intro fl σ x rest p m hfl hp hx hm hr hb
  have hxs := get_lt hx
  refine H_call H (Nat.le_of_ble_eq_true rfl) ?_
  have hlen : (rest.take m).length = m := by simp; omega
  simp [c_lex_reader_take, hx, encR, encP, near hfl hxs, hm]
  refine loopM_to (take_loop (s := rest.take m) (rest := rest.drop m) (p0 := p) hfl hp hx (by omega) ?_ (rest.take m) [] p _ rfl rfl (by rw [hlen]; exact hb) ?_ ?_ ?_ ?_) ?_
  · intro ρ' r5
    simp [r5, encR, encP, near hfl hxs, pinned hp]
  all_goals simp [encR, encP, hlen]

section
variable {wm : TypeId → Bool} {n fl : Nat} {Q : Ex → VEnv → St → Prop} {k : List Lf} {σ : St} {x g : Nat} {rest : Str} {p : Pos} {first caps : List V} {q : Str → Bool}
theorem until_loop (hfl : fl ≤ σ.size) (hp : σ.pin ≤ σ.size) (hx : σ.get x = some (.cells (encR rest p))) (hs : rest.length ≤ 16777216) (h1 : first.map V.strip = first) (h2 : caps.map V.strip = caps) (h3 : V.lows σ.size first = true) (h4 : V.lows σ.size caps = true)
    (hq : ∀ (pre : Str) (c : UInt8) (t : Str), rest = pre ++ c :: t → ∀ fl', fl' ≤ σ.size → Big P K X (.call fl' g (first ++ [.int .i64 pre.length] ++ caps) σ (.bool (q (c :: t))) σ))
    (hE : ∀ ρ', ρ' 5 = .int .i64 (upto q rest) → contM P K X wm n fl true Q k (.exit 0) ρ' σ) :
    ∀ (l pre : Str) (ρ : VEnv), rest = pre ++ l → upto q rest = pre.length + upto q l → ρ 0 = .ptr x 0 → ρ 1 = .func g first caps → ρ 5 = .int .i64 pre.length →
      loopM P K X wm n fl true Q l_lex_reader_until_0 k ρ σ := by
  have hxs := get_lt hx
  intro l
  induction l with
  | nil =>
    intro pre ρ hi hu r0 r1 r5
    rw [List.append_nil] at hi
    subst hi
    refine loopM_at l_lex_reader_until_0.eq_1 ?_
    simp [r0, r1, r5, pinned hp, hx, encR]
    refine hE _ (by simp [r5, hu, upto])
  | cons c t ih =>
    intro pre ρ hi hu r0 r1 r5
    have hlen : pre.length < rest.length := by rw [hi]; simp
    have hlt : (pre.length : Int) < (rest.length : Int) := by omega
    have hw : IntKind.i64.wrap ((pre.length : Int) + 1) = (pre.length : Int) + 1 := wrap_i64 (by omega) (by omega)
    refine loopM_at l_lex_reader_until_0.eq_1 ?_
    simp [r0, r1, r5, pinned hp, hx, encR, hlt, h1, h2]
    have hc := hq pre c t hi fl hfl
    rw [List.append_assoc] at hc
    refine callM_of hc ?_
    cases hqc : q (c :: t) with
    | true =>
      simp [pinned hp]
      refine hE _ (by simp [r5, hu, upto, hqc])
    | false =>
      simp [pinned hp, r5, hw]
      refine ih (pre ++ [c]) _ (by rw [hi]; simp) (by rw [hu]; simp [upto, hqc]; omega) ?_ ?_ ?_
      all_goals simp [r0, r1, hxs, h3, h4]
end
def S_until (P : Program) (K : Knobs) (X : ExtV) (f : Nat) : Prop := ∀ (fl : Nat) (σ : St) (x : Nat) (rest : Str) (p : Pos) (g : Nat) (first caps : List V) (q : Str → Bool), fl ≤ σ.size → σ.pin ≤ σ.size → σ.get x = some (.cells (encR rest p)) → rest.length ≤ 16777216 → first.map V.strip = first → caps.map V.strip = caps → V.lows σ.size first = true → V.lows σ.size caps = true →
    (∀ (pre : Str) (c : UInt8) (t : Str), rest = pre ++ c :: t → ∀ fl', fl' ≤ σ.size → Big P K X (.call fl' g (first ++ [.int .i64 pre.length] ++ caps) σ (.bool (q (c :: t))) σ)) →
    Big P K X (.call fl f [.ptr x 0, .func g first caps] σ (.int .i64 (upto q rest)) σ)
theorem until_ok {f : Nat} {qt : Bool} (H : Has P K f qt c_lex_reader_until) : S_until P K X f := by
  intro fl σ x rest p g first caps q hfl hp hx hs h1 h2 h3 h4 hq
  have hxs := get_lt hx
  refine H_callq H (Nat.le_of_ble_eq_true rfl) hfl fun fl' hf1 hf2 => ?_
  simp [c_lex_reader_until]
  refine until_loop (x := x) (g := g) (first := first) (caps := caps) (q := q) (rest := rest) hf2 hp hx hs h1 h2 h3 h4 hq ?_ rest [] _ rfl (by simp) ?_ ?_ ?_
  · intro ρ' r5
    simp [r5]
  all_goals simp

/-! ### Library functions: what they answer -/
def ixO : Option Nat → Int
  | some i => i
  | none => -1
def indexStr (p : Str) : Str → Option Nat
  | [] => if p.isEmpty then some 0 else none
  | c :: t => if p.isPrefixOf (c :: t) then some 0 else (indexStr p t).map (· + 1)
def S_IndexByte (P : Program) (K : Knobs) (X : ExtV) (f : Nat) : Prop := ∀ (fl : Nat) (σ : St) (s : Str) (c : UInt8), fl ≤ σ.size → s.length ≤ 16777216 → Big P K X (.call fl f [.str s, .int .u8 c.toNat] σ (.int .i64 (ixO (s.findIdx? (· == c)))) σ)
def S_HasPrefix (P : Program) (K : Knobs) (X : ExtV) (f : Nat) : Prop := ∀ (fl : Nat) (σ : St) (s p : Str), fl ≤ σ.size → s.length ≤ 16777216 → Big P K X (.call fl f [.str s, .str p] σ (.bool (p.isPrefixOf s)) σ)
def S_Index (P : Program) (K : Knobs) (X : ExtV) (f : Nat) : Prop := ∀ (fl : Nat) (σ : St) (s p : Str), fl ≤ σ.size → s.length ≤ 16777216 → Big P K X (.call fl f [.str s, .str p] σ (.int .i64 (ixO (indexStr p s))) σ)
def S_IndexAny (P : Program) (K : Knobs) (X : ExtV) (f : Nat) : Prop := ∀ (fl : Nat) (σ : St) (s cs : Str), fl ≤ σ.size → s.length ≤ 16777216 → (∀ c ∈ s, c < 128) → (∀ c ∈ cs, c < 128) → cs.length ≤ 256 → Big P K X (.call fl f [.str s, .str cs] σ (.int .i64 (ixO (s.findIdx? (cs.contains ·)))) σ)

theorem ixO_nonneg (o : Option Nat) : (0 ≤ ixO o) ↔ o.isSome = true := by cases o <;> simp [ixO]
theorem ixO_dec (o : Option Nat) : decide (0 ≤ ixO o) = o.isSome := by cases o <;> simp [ixO]
theorem beq_sym (c d : UInt8) : (d == c) = (c == d) := by
  rw [Bool.eq_iff_iff, beq_iff_eq, beq_iff_eq]
  exact eq_comm
theorem ends_ix (c : UInt8) (t : Str) : ends (c :: t) = (decide (0 ≤ ixO (([32, 10, 123, 125, 59, 91, 93, 34, 35] : Str).findIdx? (· == c))) || ([47, 42] : Str).isPrefixOf (c :: t)) := by
  have h1 : decide (0 ≤ ixO (([32, 10, 123, 125, 59, 91, 93, 34, 35] : Str).findIdx? (· == c))) = ([32, 10, 123, 125, 59, 91, 93, 34, 35] : Str).any (· == c) := by
    rw [ixO_dec, List.findIdx?_isSome]
  have h2 : ([47, 42] : Str).isPrefixOf (c :: t) = begins (c :: t) := by
    cases t with
    | nil => simp [begins, List.isPrefixOf]
    | cons b t => simp [begins, List.isPrefixOf, beq_sym c 47, beq_sym b 42]
  rw [h1, h2]
  unfold ends
  simp only [List.any_cons, List.any_nil, Bool.or_false]
  congr 1
  unfold sign
  by_cases e1 : c = 123
  · subst e1; rfl
  by_cases e2 : c = 125
  · subst e2; rfl
  by_cases e3 : c = 59
  · subst e3; rfl
  by_cases e4 : c = 91
  · subst e4; rfl
  by_cases e5 : c = 93
  · subst e5; rfl
  rw [if_neg e1, if_neg e2, if_neg e3, if_neg e4, if_neg e5]
  have n1 : ((123 : UInt8) == c) = false := by simpa using fun e => e1 e.symm
  have n2 : ((125 : UInt8) == c) = false := by simpa using fun e => e2 e.symm
  have n3 : ((59 : UInt8) == c) = false := by simpa using fun e => e3 e.symm
  have n4 : ((91 : UInt8) == c) = false := by simpa using fun e => e4 e.symm
  have n5 : ((93 : UInt8) == c) = false := by simpa using fun e => e5 e.symm
  rw [n1, n2, n3, n4, n5]
  rw [beq_sym c 32, beq_sym c 10, beq_sym c 34, beq_sym c 35]
  simp [Bool.or_assoc]
def S_ends (P : Program) (K : Knobs) (X : ExtV) (f : Nat) : Prop := ∀ (fl : Nat) (σ : St) (x : Nat) (rest pre : Str) (p : Pos) (c : UInt8) (t : Str), fl ≤ σ.size → σ.pin ≤ σ.size → σ.get x = some (.cells (encR rest p)) → rest.length ≤ 16777216 → rest = pre ++ c :: t →
    Big P K X (.call fl f [.ptr x 0, .int .i64 pre.length] σ (.bool (ends (c :: t))) σ)
theorem ends_ok {f fi fh : Nat} {qt : Bool} (hi : S_IndexByte P K X fi) (hh : S_HasPrefix P K X fh) (H : Has P K f qt (c_lex_reader_ends fi fh)) : S_ends P K X f := by
  intro fl σ x rest pre p c t hfl hp hx hs hr
  have hxs := get_lt hx
  refine H_callq H (Nat.le_of_ble_eq_true rfl) hfl fun fl' hf1 hf2 => ?_
  have hlen : pre.length < rest.length := by rw [hr]; simp
  have hget : rest[pre.length]? = some c := by rw [hr]; simp
  have hgi : rest[pre.length] = c := by
    rw [List.getElem?_eq_getElem hlen] at hget
    exact Option.some.inj hget
  have hdr : rest.drop pre.length = c :: t := by rw [hr]; simp
  have hle : pre.length ≤ rest.length := by omega
  have htk : (c :: t).take (rest.length - pre.length) = c :: t := List.take_of_length_le (by rw [← hdr]; simp)
  rw [ends_ix]
  simp [c_lex_reader_ends, hx, encR, hlen, hgi]
  refine callM_of (hi _ _ _ c hf2 (by simp)) ?_
  by_cases h : 0 ≤ ixO (([32, 10, 123, 125, 59, 91, 93, 34, 35] : Str).findIdx? (· == c))
  · simp [h]
  · simp [h, hx, encR, hle, hdr, htk]
    refine callM_of (hh _ _ _ _ hf2 (by rw [← hdr]; simp; omega)) ?_
    simp [h]
end Go.Vw.Wm
end
section
/- The walk of a token. -/
namespace Go.Vw.Wm
open Go Go.RowKit Go.Abs Go.Vw Lx Tr
set_option maxRecDepth 20000
set_option linter.unusedSimpArgs false
set_option linter.unusedVariables false
variable {P : Program} {K : Knobs} {X : ExtV}

theorem pre_begins (c : UInt8) (t : Str) : ([47, 42] : Str).isPrefixOf (c :: t) = begins (c :: t) := by
  cases t with
  | nil => simp [begins, List.isPrefixOf]
  | cons b t => simp [begins, List.isPrefixOf, beq_sym c 47, beq_sym b 42]
theorem index_close : ∀ (l : Str), indexStr [42, 47] l = closeAt l
  | [] => rfl
  | a :: t => by
    have h : ([42, 47] : Str).isPrefixOf (a :: t) = (a == 42 && t.head? == some 47) := by
      cases t with
      | nil => simp [List.isPrefixOf]
      | cons b t => simp [List.isPrefixOf, beq_sym a 42, beq_sym b 47]
    simp only [indexStr, closeAt, h, index_close t]
theorem quote_ix : ∀ (t : Str), match t.findIdx? (([34, 10] : Str).contains ·) with
    | some n => n = upto isQuoteOrNl t ∧ ∃ d r, t.drop n = d :: r ∧ t[n]? = some d ∧ (d = 34 ∨ d = 10)
    | none => t.drop (upto isQuoteOrNl t) = []
  | [] => by simp [upto]
  | c :: t => by
    have ih := quote_ix t
    rw [List.findIdx?_cons]
    have hc : isQuoteOrNl (c :: t) = ([34, 10] : Str).contains c := by
      simp [isQuoteOrNl, List.contains, List.elem]
      cases h1 : (c == 34) <;> cases h2 : (c == 10) <;> rfl
    by_cases h : ([34, 10] : Str).contains c = true
    · rw [if_pos h]
      simp only [upto, hc, h, if_true]
      refine ⟨trivial, c, t, rfl, rfl, ?_⟩
      simpa using h
    · rw [if_neg h]
      have h' : ([34, 10] : Str).contains c = false := by simpa using h
      cases hf : t.findIdx? (([34, 10] : Str).contains ·) with
      | none =>
        rw [hf] at ih
        simp only [Option.map_none, upto, hc, h', Bool.false_eq_true, if_false, List.drop_succ_cons]
        exact ih
      | some n =>
        rw [hf] at ih
        obtain ⟨q1, d, r, q2, q3, q4⟩ := ih
        simp only [Option.map_some, upto, hc, h', Bool.false_eq_true, if_false]
        exact ⟨by rw [q1], d, r, by simpa using q2, by simpa using q3, q4⟩
theorem sign_ix (c : UInt8) : ixO (([123, 125, 59, 91, 93] : Str).findIdx? (· == c)) = if sign c = 0 then -1 else (sign c : Int) - 2 := by
  unfold sign
  by_cases e1 : c = 123
  · subst e1; rfl
  by_cases e2 : c = 125
  · subst e2; rfl
  by_cases e3 : c = 59
  · subst e3; rfl
  by_cases e4 : c = 91
  · subst e4; rfl
  by_cases e5 : c = 93
  · subst e5; rfl
  rw [if_neg e1, if_neg e2, if_neg e3, if_neg e4, if_neg e5]
  have n1 : ((123 : UInt8) == c) = false := by simpa using fun e => e1 e.symm
  have n2 : ((125 : UInt8) == c) = false := by simpa using fun e => e2 e.symm
  have n3 : ((59 : UInt8) == c) = false := by simpa using fun e => e3 e.symm
  have n4 : ((91 : UInt8) == c) = false := by simpa using fun e => e4 e.symm
  have n5 : ((93 : UInt8) == c) = false := by simpa using fun e => e5 e.symm
  simp [List.findIdx?_cons, n1, n2, n3, n4, n5, ixO]
theorem sign_le (c : UInt8) : sign c ≤ 6 := by
  unfold sign
  repeat' split
  all_goals omega
theorem sign_two (c : UInt8) : sign c = 0 ∨ 2 ≤ sign c := by
  unfold sign
  repeat' split
  all_goals omega

def S_nl (P : Program) (K : Knobs) (X : ExtV) (f : Nat) : Prop := ∀ (fl : Nat) (σ : St) (x b : Nat) (rest pre : Str) (p : Pos) (c : UInt8) (t : Str), fl ≤ σ.size → σ.get b = some (.cells [.ptr x 0]) → σ.get x = some (.cells (encR rest p)) → rest = pre ++ c :: t →
    Big P K X (.call fl f [.int .i64 pre.length, .ptr b 0] σ (.bool (isNl (c :: t))) σ)
theorem nl_ok {f : Nat} {qt : Bool} (H : Has P K f qt c_lex_reader_token_1) : S_nl P K X f := by
  intro fl σ x b rest pre p c t hfl hb hx hr
  refine H_callq H (Nat.le_of_ble_eq_true rfl) hfl fun fl' hf1 hf2 => ?_
  have hlen : pre.length < rest.length := by rw [hr]; simp
  have hget : rest[pre.length]? = some c := by rw [hr]; simp
  have hgi : rest[pre.length] = c := by
    rw [List.getElem?_eq_getElem hlen] at hget
    exact Option.some.inj hget
  have hq : isNl (c :: t) = decide ((c.toNat : Int) = 10) := by
    unfold isNl
    rw [Bool.eq_iff_iff]
    simp [u8_10]
  rw [hq]
  simp [c_lex_reader_token_1, hx, hb, encR, hlen, hgi]

def tokOut (p : Pos) : T1 → V
  | .bad => .tuple [.agg (encT ⟨1, [], p⟩), .bool false, .int .i64 71]
  | .skip _ => .tuple [.agg (encT ⟨1, [], p⟩), .bool false, .int .i64 0]
  | .tok kd tx _ => .tuple [.agg (encT ⟨kd, tx, p⟩), .bool true, .int .i64 0]
def tokTook : T1 → Nat
  | .bad => 0
  | .skip n => n
  | .tok _ _ n => n
def S_token (P : Program) (K : Knobs) (X : ExtV) (f : Nat) : Prop := ∀ (fl : Nat) (σ : St) (x : Nat) (c : UInt8) (t : Str) (p : Pos), fl ≤ x → σ.pin ≤ σ.size → σ.get x = some (.cells (encR (c :: t) p)) → (c :: t).length ≤ 65536 → posOK p (c :: t).length → (∀ d ∈ c :: t, d < 128) →
    Big P K X (.call fl f [.ptr x 0] σ (tokOut p (tok1 (c :: t))) (σ.put x (.cells (encR ((c :: t).drop (tokTook (tok1 (c :: t)))) (advs p ((c :: t).take (tokTook (tok1 (c :: t)))))))))
theorem token_ok {f fi ft fu fh fx fa fn fe : Nat} (hi : S_IndexByte P K X fi) (ht : S_take P K X ft) (hu : S_until P K X fu) (hh : S_HasPrefix P K X fh) (hx' : S_Index P K X fx) (ha : S_IndexAny P K X fa) (hnl : S_nl P K X fn) (he : S_ends P K X fe)
    (H : Has P K f false (c_lex_reader_token fi ft fu fh fx fa fn fe)) : S_token P K X f := by
  intro fl σ x c t p hfl hp hx hs hb hasc
  have hxs := get_lt hx
  have hb' : ∀ m, m ≤ (c :: t).length → posOK p m := by
    intro m hm
    unfold posOK at hb ⊢
    omega
  have h : ∀ (R : V → St → Prop), R (tokOut p (tok1 (c :: t))) (σ.put x (.cells (encR ((c :: t).drop (tokTook (tok1 (c :: t)))) (advs p ((c :: t).take (tokTook (tok1 (c :: t)))))))) → ∃ v σ', R v σ' ∧ Big P K X (.call fl f [.ptr x 0] σ v σ') := by
    intro R hR
    refine H_callE H (Nat.le_of_ble_eq_true rfl) ?_
    simp [c_lex_reader_token, hx, encR, encP, near hfl hxs]
    refine callM_of (hi _ _ _ c (by simp [near hfl hxs]) (by simp)) ?_
    rw [sign_ix]
    unfold tok1 at hR
    simp only at hR
    have e32 : c = 32 ↔ (c.toNat : Int) = 32 := u8_eq
    have e10 : c = 10 ↔ (c.toNat : Int) = 10 := u8_eq
    have e35 : c = 35 ↔ (c.toNat : Int) = 35 := u8_eq
    have e34 : c = 34 ↔ (c.toNat : Int) = 34 := u8_eq
    by_cases h1 : c = 32 ∨ c = 10
    · rw [if_pos h1] at hR
      by_cases h32 : c = 32
      · have i32 := e32.1 h32
        simp [i32, near hfl hxs]
        refine callM_of (ht _ _ _ (c :: t) p 1 hfl (by simp [pinned hp]) (by simp [near hfl hxs, hx, encR, encP, i32]) (by simp) (by omega) (hb' 1 (by simp))) ?_
        simp [near hfl hxs, pinned hp]
        simpa [tokOut, tokTook, encT, encP] using hR
      · have h10 := h1.resolve_left h32
        have i10 := e10.1 h10
        simp [i10, near hfl hxs]
        refine callM_of (ht _ _ _ (c :: t) p 1 hfl (by simp [pinned hp]) (by simp [near hfl hxs, hx, encR, encP, i10]) (by simp) (by omega) (hb' 1 (by simp))) ?_
        simp [near hfl hxs, pinned hp]
        simpa [tokOut, tokTook, encT, encP] using hR
    · rw [if_neg h1] at hR
      have n32 : ¬ ((c.toNat : Int) = 32) := fun e => h1 (.inl (e32.2 e))
      have n10 : ¬ ((c.toNat : Int) = 10) := fun e => h1 (.inr (e10.2 e))
      by_cases h35 : c = 35
      · rw [if_pos h35] at hR
        have i35 := e35.1 h35
        simp [i35, near hfl hxs]
        refine callM_of (hu _ _ x (c :: t) p fn [] [.ptr σ.size 0] isNl (by simp [near hfl hxs]) (by simp [pinned hp]) (by simp [near hfl hxs, hx, encR, encP]) (by omega) rfl rfl (by simp) (by simp) ?_) ?_
        · intro pre d r hr fl' hfl'
          have := hnl fl' _ x σ.size (c :: t) pre p d r hfl' (by simp) (by simp [near hfl hxs, hx, encR, encP]) hr
          simpa using this
        · have hup := upto_le isNl (c :: t)
          simp [near hfl hxs]
          refine callM_of (ht _ _ _ (c :: t) p (upto isNl (c :: t)) hfl (by simp [pinned hp]) (by simp [near hfl hxs, hx, encR, encP]) hup (by omega) (hb' _ hup)) ?_
          simp [near hfl hxs, pinned hp]
          simpa [tokOut, tokTook, encT, encP] using hR
      · rw [if_neg h35] at hR
        have n35 : ¬ ((c.toNat : Int) = 35) := fun e => h35 (e35.2 e)
        simp [n32, n10, n35, near hfl hxs, hx, encR, encP]
        refine callM_of (hh _ _ (c :: t) _ (by simp [near hfl hxs]) (by omega)) ?_
        rw [pre_begins]
        by_cases hbg : begins (c :: t) = true
        · rw [if_pos hbg] at hR
          rw [hbg]
          cases t with
          | nil => simp [begins] at hbg
          | cons b t2 =>
            simp [near hfl hxs, hx, encR, encP]
            refine callM_of (hx' _ _ _ _ (by simp [near hfl hxs]) (by simp at hs ⊢; omega)) ?_
            rw [index_close]
            simp only [List.drop_succ_cons, List.drop_zero] at hR
            cases hcl : closeAt t2 with
            | none =>
              rw [hcl] at hR
              simp [ixO, near hfl hxs, pinned hp]
              have := put_get hx
              simp only [encR, encP] at this
              simpa [tokOut, tokTook, encT, encP, encR, Lx.advs, this] using hR
            | some m =>
              rw [hcl] at hR
              have hcm := closeAt_le hcl
              have hm0 : ¬ ((m : Int) < 0) := by omega
              have hw : IntKind.i64.wrap ((m : Int) + 4) = ((m + 4 : Nat) : Int) := wrap_i64 (by omega) (by simp at hs; omega)
              simp [ixO, near hfl hxs, pinned hp, hm0, hw]
              refine callM_of (ht _ _ _ (c :: b :: t2) p (m + 4) hfl (by simp [pinned hp]) (by simp [near hfl hxs, hx, encR, encP]) (by simp; omega) (by omega) (hb' _ (by simp; omega))) ?_
              simp [near hfl hxs, pinned hp]
              simpa [tokOut, tokTook, encT, encP] using hR
        · rw [if_neg hbg] at hR
          have hbg' : begins (c :: t) = false := by simpa using hbg
          rw [hbg']
          by_cases h34 : c = 34
          · rw [if_pos h34] at hR
            have i34 := e34.1 h34
            simp [i34, near hfl hxs, hx, encR, encP]
            refine callM_of (ha _ _ t _ (by simp [near hfl hxs]) (by simp at hs ⊢; omega) (fun d hd => hasc d (by simp [hd])) (by decide) (by decide)) ?_
            have hqi := quote_ix t
            cases hf : t.findIdx? (([34, 10] : Str).contains ·) with
            | none =>
              rw [hf] at hqi
              simp only at hqi
              rw [hqi] at hR
              simp [ixO, near hfl hxs, pinned hp]
              have := put_get hx
              simp only [encR, encP] at this
              simpa [tokOut, tokTook, encT, encP, encR, Lx.advs, this] using hR
            | some m =>
              rw [hf] at hqi
              obtain ⟨q1, d, r, q2, q3, q4⟩ := hqi
              subst q1
              have hml : upto isQuoteOrNl t < t.length := (List.getElem?_eq_some_iff.1 q3).1
              have hmi : t[upto isQuoteOrNl t] = d := (List.getElem?_eq_some_iff.1 q3).2
              have hm0 : ¬ ((upto isQuoteOrNl t : Int) < 0) := by omega
              have hw1 : IntKind.i64.wrap ((upto isQuoteOrNl t : Int) + 1) = ((upto isQuoteOrNl t + 1 : Nat) : Int) := wrap_i64 (by omega) (by simp at hs; omega)
              have hw2 : IntKind.i64.wrap ((upto isQuoteOrNl t : Int) + 2) = ((upto isQuoteOrNl t + 2 : Nat) : Int) := wrap_i64 (by omega) (by simp at hs; omega)
              have hn1 : (0 : Int) ≤ (upto isQuoteOrNl t : Int) + 1 := by omega
              rw [q2] at hR
              rcases q4 with rfl | rfl
              · simp [ixO, near hfl hxs, pinned hp, hm0, hn1, hw1, hw2, hx, encR, encP, hml, hmi]
                refine callM_of (ht _ _ _ (c :: t) p (upto isQuoteOrNl t + 2) hfl (by simp [pinned hp]) (by simp [near hfl hxs, hx, encR, encP, i34]) (by simp; omega) (by omega) (hb' _ (by simp; omega))) ?_
                have hmin : upto isQuoteOrNl t ≤ min (upto isQuoteOrNl t + 1) t.length := by omega
                have htk : (t.take (upto isQuoteOrNl t + 1)).take (upto isQuoteOrNl t) = t.take (upto isQuoteOrNl t) := by rw [List.take_take, Nat.min_eq_left (by omega)]
                simp [near hfl hxs, pinned hp, hw1, hn1, hmin]
                simpa [tokOut, tokTook, encT, encP, htk, Nat.min_eq_left] using hR
              · simp [ixO, near hfl hxs, pinned hp, hm0, hn1, hw1, hw2, hx, encR, encP, hml, hmi]
                have := put_get hx
                simp only [encR, encP] at this
                simpa [tokOut, tokTook, encT, encP, encR, Lx.advs, this] using hR
          · rw [if_neg h34] at hR
            have n34 : ¬ ((c.toNat : Int) = 34) := fun e => h34 (e34.2 e)
            simp [n34, near hfl hxs]
            by_cases hsg : sign c = 0
            · rw [if_neg (by simpa using hsg)] at hR
              simp [hsg]
              refine callM_of (hu _ _ x (c :: t) p fe [.ptr x 0] [] ends (by simp [near hfl hxs]) (by simp [pinned hp]) (by simp [near hfl hxs, hx, encR, encP]) (by omega) rfl rfl (by simp [near hfl hxs]) (by simp) ?_) ?_
              · intro pre d r hr fl' hfl'
                have := he fl' _ x (c :: t) pre p d r hfl' (by simp [pinned hp]) (by simp [near hfl hxs, hx, encR, encP]) (by omega) hr
                simpa using this
              · have hup := upto_le ends (c :: t)
                simp [near hfl hxs]
                refine callM_of (ht _ _ _ (c :: t) p (upto ends (c :: t)) hfl (by simp [pinned hp]) (by simp [near hfl hxs, hx, encR, encP]) hup (by omega) (hb' _ hup)) ?_
                simp [near hfl hxs, pinned hp]
                simpa [tokOut, tokTook, encT, encP] using hR
            · rw [if_pos hsg] at hR
              have h2 := (sign_two c).resolve_left hsg
              have h6 := sign_le c
              have hw1 : IntKind.u8.wrap ((sign c : Int) - 2) = (sign c : Int) - 2 := wrap_u8 (by omega) (by omega)
              have hw2 : IntKind.u8.wrap (2 + ((sign c : Int) - 2)) = (sign c : Int) := by rw [show (2 : Int) + ((sign c : Int) - 2) = sign c by omega]; exact wrap_u8 (by omega) (by omega)
              have hge : (2 : Int) ≤ (sign c : Int) := by omega
              simp [hsg, hge, hw1, hw2, near hfl hxs]
              refine callM_of (ht _ _ _ (c :: t) p 1 hfl (by simp [pinned hp]) (by simp [near hfl hxs, hx, encR, encP]) (by simp) (by omega) (hb' 1 (by simp))) ?_
              simp [near hfl hxs, pinned hp]
              simpa [tokOut, tokTook, encT, encP] using hR
  obtain ⟨v, σ', ⟨rfl, rfl⟩, h2⟩ := h (fun v σ' => v = tokOut p (tok1 (c :: t)) ∧ σ' = σ.put x (.cells (encR ((c :: t).drop (tokTook (tok1 (c :: t)))) (advs p ((c :: t).take (tokTook (tok1 (c :: t)))))))) ⟨rfl, rfl⟩
  exact h2
end Go.Vw.Wm
end
section
/- What is read can be written; what was written passes the check. -/
namespace Tr
open Lx

/-! ### The check -/
def okByte (c : UInt8) : Prop := c = 10 ∨ (¬ c < 32 ∧ ¬ c > 126)

theorem checkL_ok_bytes : ∀ (l : Str) (p : Pos), (checkL p l).2 = 0 → ∀ c ∈ l, okByte c
  | [], _, _, c, hc => by simp at hc
  | a :: l, p, h, c, hc => by
    rw [checkL] at h
    split at h
    · simp at h
    · split at h
      · rename_i ha
        rcases List.mem_cons.1 hc with rfl | hc
        · exact .inl ha
        · exact checkL_ok_bytes l _ h c hc
      · split at h
        · simp at h
        · rename_i ha hb
          simp only [not_or] at hb
          rcases List.mem_cons.1 hc with rfl | hc
          · exact .inr hb
          · exact checkL_ok_bytes l _ h c hc

theorem check_ok_bytes {l : Str} (h : (check l).2 = 0) : ∀ c ∈ l, okByte c := by
  unfold check at h
  split at h
  · simp at h
  · exact checkL_ok_bytes l _ h

theorem checkL_ok : ∀ (l : Str) (p : Pos), (∀ c ∈ l, okByte c) → p.line + (l.count 10 : Nat) ≤ 4096 → checkL p l = (⟨0, 0⟩, 0)
  | [], _, _, _ => rfl
  | a :: l, p, h, hl => by
    have h1 : p.line + (l.count 10 : Nat) ≤ 4096 := by
      rw [List.count_cons] at hl; split at hl <;> omega
    rw [checkL, if_neg (by omega)]
    split
    · rename_i ha
      subst ha
      refine checkL_ok l _ (fun c hc => h c (List.mem_cons_of_mem _ hc)) ?_
      rw [List.count_cons] at hl
      simp at hl ⊢
      omega
    · rename_i ha
      rcases h a (List.mem_cons_self) with hb | hb
      · exact absurd hb ha
      · rw [if_neg (by simpa [not_or] using hb)]
        exact checkL_ok l _ (fun c hc => h c (List.mem_cons_of_mem _ hc)) h1

theorem check_ok {l : Str} (h : ∀ c ∈ l, okByte c) (h1 : l.length ≤ 65536) (h2 : l.count 10 ≤ 4095) : check l = (⟨0, 0⟩, 0) := by
  unfold check
  rw [if_neg (by omega)]
  exact checkL_ok l _ h (by simp; omega)

/-! ### What is written, byte by byte -/
theorem isBad_ok {c : UInt8} (h : isBad c = false) : okByte c ∧ c ≠ 10 := by
  simp only [isBad, Bool.or_eq_false_iff, decide_eq_false_iff_not] at h
  exact ⟨.inr h.1, by rintro rfl; exact h.1.1 (by decide)⟩

theorem quoted_ok {w q : Str} (h : quoted w = some q) : (∀ c ∈ q, okByte c) ∧ q.count 10 = 0 := by
  have key : ∀ v : Str, v.any isBad = false → (∀ c ∈ v, okByte c) ∧ v.count 10 = 0 := by
    intro v hv
    have hv' : ∀ c ∈ v, isBad c = false := by simpa using hv
    exact ⟨fun c hc => (isBad_ok (hv' c hc)).1, List.count_eq_zero.2 fun hc => (isBad_ok (hv' 10 hc)).2 rfl⟩
  unfold quoted at h
  split at h
  · cases h
  · rename_i hb
    have hb : w.any isBad = false := by simpa using hb
    split at h
    · simp only [Option.some.injEq] at h
      subst h
      have hk := key w hb
      constructor
      · intro c hc
        simp only [List.mem_append, List.mem_cons, List.not_mem_nil, or_false] at hc
        rcases hc with (rfl | hc) | rfl
        · exact .inr (by decide)
        · exact hk.1 c hc
        · exact .inr (by decide)
      · simp [List.count_append, hk.2]
    · simp only [Option.some.injEq] at h
      subst h
      exact key w hb

theorem quotes_ok : ∀ (ws qs : List Str), quotes ws = some qs → (∀ c ∈ joinSp qs, okByte c) ∧ (joinSp qs).count 10 = 0
  | [], qs, h => by simp [quotes] at h; subst h; simp [joinSp]
  | w :: ws, qs, h => by
    rw [quotes] at h
    cases hw : quoted w with
    | none => rw [hw] at h; simp at h
    | some q =>
      cases hr : quotes ws with
      | none => rw [hw, hr] at h; simp at h
      | some qs2 =>
        rw [hw, hr] at h
        simp only [Option.some.injEq] at h
        subst h
        have a := quoted_ok hw
        have b := quotes_ok ws qs2 hr
        cases qs2 with
        | nil => exact a
        | cons x y =>
          have hj : joinSp (q :: x :: y) = q ++ 32 :: joinSp (x :: y) := rfl
          rw [hj]
          constructor
          · intro c hc
            simp only [List.mem_append, List.mem_cons] at hc
            rcases hc with hc | rfl | hc
            · exact a.1 c hc
            · exact .inr (by decide)
            · exact b.1 c hc
          · simp [List.count_append, a.2, b.2]

theorem blanks_ok (n : Nat) : (∀ c ∈ blanks n, okByte c) ∧ (blanks n).count 10 = 0 := by
  unfold blanks
  constructor
  · intro c hc
    have := List.eq_of_mem_replicate hc
    subst this
    exact .inr (by decide)
  · simp [List.count_replicate]

mutual
/-- How many statements there are. -/
def size1 : Node → Nat
  | .mk _ _ _ ks => 1 + sizes ks
def sizes : List Node → Nat
  | [] => 0
  | n :: r => size1 n + sizes r
end

theorem ok_append {a b : Str} (ha : ∀ c ∈ a, okByte c) (hb : ∀ c ∈ b, okByte c) : ∀ c ∈ a ++ b, okByte c := by
  intro c hc
  rcases List.mem_append.1 hc with h | h
  · exact ha c h
  · exact hb c h

mutual
theorem pr1_ok : ∀ (n : Node) (d : Nat) (t : Str), pr1 d n = some t → (∀ c ∈ t, okByte c) ∧ t.count 10 ≤ 2 * size1 n
  | .mk ws ps b ks, d, t, h => by
    rw [pr1] at h
    split at h
    · cases h
    · cases hq : quotes ws with
      | none => rw [hq] at h; cases h
      | some qs =>
        rw [hq] at h
        simp only at h
        have a := blanks_ok (4 * d)
        have q := quotes_ok ws qs hq
        split at h
        · cases hk : prs (d + 1) ks with
          | none => rw [hk] at h; cases h
          | some k =>
            rw [hk] at h
            simp only [Option.some.injEq] at h
            subst h
            have kk := prs_ok ks (d + 1) k hk
            constructor
            · refine ok_append (ok_append (ok_append (ok_append (ok_append a.1 q.1) ?_) kk.1) a.1) ?_
              · intro c hc; simp at hc; rcases hc with rfl | rfl | rfl <;> first | exact .inl rfl | exact .inr (by decide)
              · intro c hc; simp at hc; rcases hc with rfl | rfl <;> first | exact .inl rfl | exact .inr (by decide)
            · simp only [List.count_append, a.2, q.2, size1]
              have := kk.2
              simp
              omega
        · simp only [Option.some.injEq] at h
          subst h
          constructor
          · refine ok_append (ok_append a.1 q.1) ?_
            intro c hc; simp at hc; rcases hc with rfl | rfl <;> first | exact .inl rfl | exact .inr (by decide)
          · simp only [List.count_append, a.2, q.2, size1]
            simp
            omega
theorem prs_ok : ∀ (l : List Node) (d : Nat) (t : Str), prs d l = some t → (∀ c ∈ t, okByte c) ∧ t.count 10 ≤ 2 * sizes l
  | [], d, t, h => by
    simp only [prs, Option.some.injEq] at h
    subst h
    simp
  | n :: l, d, t, h => by
    rw [prs] at h
    cases h1 : pr1 d n with
    | none => rw [h1] at h; simp at h
    | some a =>
      cases h2 : prs d l with
      | none => rw [h1, h2] at h; simp at h
      | some b =>
        rw [h1, h2] at h
        simp only [Option.some.injEq] at h
        subst h
        have ha := pr1_ok n d a h1
        have hb := prs_ok l d b h2
        refine ⟨ok_append ha.1 hb.1, ?_⟩
        simp only [List.count_append, sizes]
        omega
end

/-! ### What is read can be written -/
def goodTok (t : Tok) : Prop := t.kind = 1 → t.text.any isBad = false

theorem okBad {c : UInt8} (h : okByte c) (h1 : c ≠ 10) (h2 : c ≠ 34) : isBad c = false := by
  rcases h with h | ⟨h3, h4⟩
  · exact absurd h h1
  · simp [isBad, h2, h3, h4]

theorem upto_not (q : Str → Bool) : ∀ (l : Str), ∀ c ∈ l.take (upto q l), ∃ t, q (c :: t) = false ∧ c ∈ l
  | [], c, hc => by simp at hc
  | a :: l, c, hc => by
    rw [upto] at hc
    split at hc
    · simp at hc
    · rename_i hq
      rw [List.take_succ_cons] at hc
      rcases List.mem_cons.1 hc with rfl | hc
      · exact ⟨l, by simpa using hq, List.mem_cons_self⟩
      · obtain ⟨t, h1, h2⟩ := upto_not q l c hc
        exact ⟨t, h1, List.mem_cons_of_mem _ h2⟩

theorem tok1_good {l : Str} (hl : ∀ c ∈ l, okByte c) {kd : Nat} {tx : Str} {k : Nat} (h : tok1 l = .tok kd tx k) : kd = 1 → tx.any isBad = false := by
  intro hk
  subst hk
  cases l with
  | nil => simp [tok1] at h
  | cons c t =>
    simp only [tok1] at h
    split at h
    · cases h
    · split at h
      · cases h
      · split at h
        · split at h <;> cases h
        · split at h
          · split at h
            · injection h with _ h _
              subst h
              simp only [List.any_eq_false, Bool.not_eq_true]
              intro x hx
              obtain ⟨t', h1, h2⟩ := upto_not _ _ x hx
              simp only [isQuoteOrNl, List.head?_cons, Bool.or_eq_false_iff, beq_eq_false_iff_ne, ne_eq, Option.some.injEq] at h1
              exact okBad (hl x (List.mem_cons_of_mem _ h2)) h1.2 h1.1
            · cases h
          · split at h
            · rename_i hs
              injection h with h1 h2 _
              exfalso
              revert h1
              unfold sign
              repeat' split
              all_goals decide
            · injection h with _ h _
              subst h
              simp only [List.any_eq_false, Bool.not_eq_true]
              intro x hx
              obtain ⟨t', h1, h2⟩ := upto_not _ _ x hx
              simp only [ends, Bool.or_eq_false_iff, beq_eq_false_iff_ne, ne_eq] at h1
              exact okBad (hl x h2) h1.1.1.1.1.2 h1.1.1.1.2

theorem toks_good : ∀ (n : Nat) (l : Str) (p : Pos) (ts : List Tok), l.length ≤ n → (∀ c ∈ l, okByte c) → toks p l = .ok ts → ∀ t ∈ ts, goodTok t
  | _, [], p, ts, _, _, h => by
    rw [toks_nil] at h
    injection h with h
    subst h
    simp
  | 0, _ :: _, _, _, h, _, _ => by simp at h
  | n + 1, c :: t, p, ts, hn, hl, h => by
    have hk := tok1_took c t
    rw [toks_cons] at h
    have hd : ∀ k, ∀ x ∈ (c :: t).drop k, okByte x := fun k x hx => hl x (List.mem_of_mem_drop hx)
    cases he : tok1 (c :: t) with
    | bad => rw [he] at h; cases h
    | skip k =>
      rw [he] at h hk
      simp only [T1.took] at hk
      exact toks_good n _ _ ts (by simp at hn ⊢; omega) (hd k) h
    | tok kd tx k =>
      rw [he] at h hk
      simp only [T1.took] at hk
      simp only at h
      cases hr : toks (advs p ((c :: t).take k)) ((c :: t).drop k) with
      | err q e => rw [hr] at h; cases h
      | ok r =>
        rw [hr] at h
        simp only [Res.push] at h
        injection h with h
        subst h
        intro x hx
        rcases List.mem_cons.1 hx with rfl | hx
        · exact tok1_good hl he
        · exact toks_good n _ _ r (by simp at hn ⊢; omega) (hd k) hr x hx

mutual
/-- Can a statement be written? -/
def can1 : Nat → Node → Bool
  | d, .mk ws _ b ks => !ws.isEmpty && ws.all (fun w => !w.any isBad) && if b then decide (d < 32) && cans (d + 1) ks else ks.isEmpty
def cans : Nat → List Node → Bool
  | _, [] => true
  | d, n :: r => can1 d n && cans d r
end

theorem quotes_can : ∀ (ws : List Str), ws.all (fun w => !w.any isBad) = true → (quotes ws).isSome
  | [], _ => rfl
  | w :: ws, h => by
    simp only [List.all_cons, Bool.and_eq_true, Bool.not_eq_true'] at h
    have hr := quotes_can ws h.2
    have hq : (quoted w).isSome := by
      unfold quoted
      rw [if_neg (by simp [h.1])]
      split <;> rfl
    rw [quotes]
    cases h1 : quoted w with
    | none => rw [h1] at hq; cases hq
    | some q =>
      cases h2 : quotes ws with
      | none => rw [h2] at hr; cases hr
      | some qs => rfl

mutual
theorem pr1_can : ∀ (n : Node) (d : Nat), can1 d n = true → (pr1 d n).isSome
  | .mk ws ps b ks, d, h => by
    simp only [can1, Bool.and_eq_true, Bool.not_eq_true'] at h
    have hq := quotes_can ws h.1.2
    rw [pr1]
    cases b with
    | true =>
      simp only [if_true, Bool.and_eq_true, decide_eq_true_eq] at h
      have hk := prs_can ks (d + 1) h.2.2
      rw [if_neg (by simp [h.1.1]; omega)]
      cases h1 : quotes ws with
      | none => rw [h1] at hq; cases hq
      | some qs =>
        cases h2 : prs (d + 1) ks with
        | none => rw [h2] at hk; cases hk
        | some k => rfl
    | false =>
      simp only [Bool.false_eq_true, if_false] at h
      rw [if_neg (by simp [h.1.1, h.2])]
      cases h1 : quotes ws with
      | none => rw [h1] at hq; cases hq
      | some qs => rfl
theorem prs_can : ∀ (l : List Node) (d : Nat), cans d l = true → (prs d l).isSome
  | [], d, _ => by simp [prs]
  | n :: l, d, h => by
    simp only [cans, Bool.and_eq_true] at h
    have h1 := pr1_can n d h.1
    have h2 := prs_can l d h.2
    rw [prs]
    cases e1 : pr1 d n with
    | none => rw [e1] at h1; cases h1
    | some a =>
      cases e2 : prs d l with
      | none => rw [e2] at h2; cases h2
      | some b => rfl
end

theorem cans_append : ∀ (a b : List Node) (d : Nat), cans d a = true → cans d b = true → cans d (a ++ b) = true
  | [], _, _, _, h => h
  | x :: a, b, d, h1, h2 => by
    simp only [cans, Bool.and_eq_true, List.cons_append] at h1 ⊢
    exact ⟨h1.1, cans_append a b d h1.2 h2⟩

theorem words_good {ts : List Tok} (h : ∀ t ∈ ts, goodTok t) : ((wordsOf ts).map (·.text)).all (fun w => !w.any isBad) = true := by
  simp only [List.all_eq_true, List.mem_map]
  rintro w ⟨t, ht, rfl⟩
  have hp : plain t = true := by
    unfold wordsOf at ht
    have := List.all_takeWhile (p := plain) (l := ts)
    exact List.all_eq_true.1 this t ht
  have hm : t ∈ ts := (List.takeWhile_prefix plain).subset ht
  have := h t hm (by simpa [plain] using hp)
  simp [this]

theorem behind_good {ts : List Tok} (h : ∀ t ∈ ts, goodTok t) : ∀ t ∈ behind ts, goodTok t :=
  fun t ht => h t ((List.dropWhile_suffix plain).subset ht)

theorem wordsOf_ne {t : Tok} {ts : List Tok} (h : t.kind = 1) : wordsOf (t :: ts) ≠ [] := by
  unfold wordsOf
  rw [List.takeWhile_cons_of_pos (by simp [plain, h])]
  simp

theorem pL_can : ∀ (n deep : Nat) (op : Pos) (ts : List Tok), ts.length ≤ n → (∀ t ∈ ts, goodTok t) → deep ≤ 32 → ∀ a r, pL deep op ts = .ok a r → cans deep a = true ∧ ∀ t ∈ r, goodTok t
  | _, deep, op, [], _, _, _, a, r, h => by
    rw [pL_nil] at h
    split at h
    · cases h
    · injection h with h1 h2
      subst h1; subst h2
      simp [cans]
  | 0, _, _, _ :: _, h, _, _, _, _, _ => by simp at h
  | n + 1, deep, op, t :: ts, hn, hg, hd, a, r, h => by
    rw [pL_cons] at h
    split at h
    · split at h
      · injection h with h1 h2
        subst h1; subst h2
        exact ⟨by simp [cans], fun x hx => hg x (List.mem_cons_of_mem _ hx)⟩
      · cases h
    · split at h
      · rename_i h1
        have he : ∃ t' r', t :: ts = t' :: r' ∧ t'.kind = 1 := ⟨t, ts, rfl, h1⟩
        cases hp : pS deep (t :: ts) with
        | err p e => rw [hp] at h; cases h
        | ok b r1 =>
          rw [hp] at h
          simp only at h
          have hlt := pS_left deep _ he hp
          have hS : cans deep b = true ∧ ∀ t ∈ r1, goodTok t := by
            rw [pS_cons deep t ts h1] at hp
            have hb := behind_lt (ts := ts) h1
            have hbg := behind_good hg
            have hwg := words_good hg
            have hwn := wordsOf_ne (ts := ts) h1
            cases hbe : behind (t :: ts) with
            | nil => rw [hbe] at hp; cases hp
            | cons u r2 =>
              rw [hbe] at hp hb hbg
              simp only at hp
              have hr2g : ∀ x ∈ r2, goodTok x := fun x hx => hbg x (List.mem_cons_of_mem _ hx)
              split at hp
              · have hbg2 := behind_good hr2g
                have hwg2 := words_good hr2g
                cases hbr : behind r2 with
                | nil => rw [hbr] at hp; cases hp
                | cons v r3 =>
                  rw [hbr] at hp hbg2
                  simp only at hp
                  split at hp
                  · cases r3 with
                    | nil => cases hp
                    | cons x r4 =>
                      simp only at hp
                      split at hp
                      · injection hp with e1 e2
                        subst e1; subst e2
                        refine ⟨?_, fun y hy => hbg2 y (List.mem_cons_of_mem _ (List.mem_cons_of_mem _ hy))⟩
                        have key : ∀ (l : List Tok), (l.map (·.text)).all (fun w => !w.any isBad) = true → cans deep (leaves (wordsOf (t :: ts)) l) = true := by
                          intro l
                          induction l with
                          | nil => intro _; simp [leaves, cans]
                          | cons y l ih =>
                            intro hl
                            simp only [List.map_cons, List.all_cons, Bool.and_eq_true] at hl
                            simp only [leaves, List.map_cons, cans, Bool.and_eq_true]
                            refine ⟨?_, ih hl.2⟩
                            simp only [leafOf, can1, List.map_append, List.all_append, hwg]
                            simp [hl.1]
                        exact key _ hwg2
                      · cases hp
                  · cases hp
              · split at hp
                · injection hp with e1 e2
                  subst e1; subst e2
                  refine ⟨?_, hr2g⟩
                  simp only [cans, leafOf, can1, hwg]
                  simp [hwn]
                · split at hp
                  · split at hp
                    · cases hp
                    · rename_i hd32
                      cases hq : pL (deep + 1) u.pos r2 with
                      | err p e => rw [hq] at hp; cases hp
                      | ok k r5 =>
                        rw [hq] at hp
                        simp only at hp
                        injection hp with e1 e2
                        subst e1; subst e2
                        have hk := pL_can n (deep + 1) u.pos r2 (by simp at hb hn; omega) hr2g (by omega) k r5 hq
                        refine ⟨?_, hk.2⟩
                        simp only [cans, can1, hwg, hk.1]
                        simp [hwn]
                        omega
                  · cases hp
          cases hq : pL deep op r1 with
          | err p e => rw [hq] at h; cases h
          | ok c r2 =>
            rw [hq] at h
            simp only at h
            injection h with e1 e2
            subst e1; subst e2
            have hk := pL_can n deep op r1 (by simp at hlt hn; omega) hS.2 hd c r2 hq
            exact ⟨cans_append b c deep hS.1 hk.1, hk.2⟩
      · cases h

theorem parse_can {s : Str} {c : List Node} (h : parse s = .ok c) : ∃ t, prs 0 c = some t := by
  unfold parse at h
  cases ht : tokens s with
  | err p e => rw [ht] at h; cases h
  | ok ts =>
    rw [ht] at h
    simp only at h
    unfold tokens at ht
    have hg : ∀ t ∈ ts, goodTok t := by
      cases hc : check s with
      | mk p e =>
        rw [hc] at ht
        simp only at ht
        split at ht
        · rename_i he
          exact toks_good s.length s _ ts (Nat.le_refl _) (check_ok_bytes (by rw [hc]; exact he)) ht
        · cases ht
    rw [parseToks_eq] at h
    cases hp : pL 0 ⟨0, 0⟩ ts with
    | err p e => rw [hp] at h; cases h
    | ok a r =>
      rw [hp] at h
      simp only at h
      injection h with h
      subst h
      have := prs_can a 0 (pL_can ts.length 0 _ ts (Nat.le_refl _) hg (by omega) a r hp).1
      cases hx : prs 0 a with
      | none => rw [hx] at this; cases this
      | some t => exact ⟨t, rfl⟩

/-! ### TreeBack -/
theorem kt_ok {p : Pos} {l : Str} {k : List KT} (h : lexKT l = some k) : ∃ ts, toks p l = .ok ts ∧ ts.map ktOf = k := by
  have := kt_toks p l
  rw [h] at this
  cases ht : toks p l with
  | err q e => rw [ht] at this; cases this
  | ok ts => rw [ht] at this; simp only [kt, Option.some.injEq] at this; exact ⟨ts, rfl, this⟩

theorem back {a : List Node} {t pre suf : Str} (h : prs 0 a = some t) (hpre : ∀ r, lexKT (pre ++ r) = lexKT r) (hsuf : lexKT suf = some [])
    (hb : ∀ c ∈ pre ++ t ++ suf, okByte c) (hl : (pre ++ t ++ suf).length ≤ 65536) (hc : (pre ++ t ++ suf).count 10 ≤ 4095) : ∃ b, parse (pre ++ t ++ suf) = .ok b ∧ sames a b = true := by
  have hk : lexKT (pre ++ t ++ suf) = some (flats a) := by
    rw [List.append_assoc, hpre, lex_prs a 0 t h, hsuf]; simp
  obtain ⟨ts, h1, h2⟩ := kt_ok (p := ⟨1, 1⟩) hk
  obtain ⟨b, h3, h4⟩ := parseToks_back h h2
  refine ⟨b, ?_, h4⟩
  unfold parse tokens
  rw [check_ok hb hl hc]
  simp only [if_true, h1, h3]

theorem back_plain {a : List Node} {t : Str} (h : prs 0 a = some t) (hl : t.length ≤ 65536) (hs : sizes a ≤ 2000) : ∃ b, parse t = .ok b ∧ sames a b = true := by
  have hk := prs_ok a 0 t h
  have := back (pre := []) (suf := []) h (fun _ => rfl) lex_nil (by simpa using hk.1) (by simpa using hl) (by simp; omega)
  simpa using this
end Tr
end
section
/- The walks of tree's writing. -/
namespace Go.Vw.Wm
open Go Go.RowKit Go.Abs Go.Vw Lx Tr
set_option maxRecDepth 20000
set_option linter.unusedSimpArgs false
set_option linter.unusedVariables false
variable {P : Program} {K : Knobs} {X : ExtV}

def S_ContainsAny (P : Program) (K : Knobs) (X : ExtV) (f : Nat) : Prop := ∀ (fl : Nat) (σ : St) (s cs : Str), fl ≤ σ.size → s.length ≤ 16777216 → (∀ c ∈ s, c < 128) → (∀ c ∈ cs, c < 128) → cs.length ≤ 256 → Big P K X (.call fl f [.str s, .str cs] σ (.bool (s.any cs.contains)) σ)
def S_Contains (P : Program) (K : Knobs) (X : ExtV) (f : Nat) : Prop := ∀ (fl : Nat) (σ : St) (s p : Str), fl ≤ σ.size → s.length ≤ 16777216 → Big P K X (.call fl f [.str s, .str p] σ (.bool (indexStr p s).isSome) σ)

theorem isBad_iff (c : UInt8) : isBad c = true ↔ (c.toNat : Int) < 32 ∨ 126 < (c.toNat : Int) ∨ (c.toNat : Int) = 34 := by
  unfold isBad
  have e34 : c = 34 ↔ (c.toNat : Int) = 34 := u8_eq
  simp only [Bool.or_eq_true, decide_eq_true_eq, beq_iff_eq, u8_32, gt_iff_lt, u8_126, e34]
  omega
theorem special_any (c : UInt8) : ([32, 123, 125, 59, 91, 93, 35] : Str).contains c = isSpecial c := by
  unfold isSpecial
  simp [List.contains, List.elem, Bool.or_assoc]
  cases c == 32 <;> cases c == 123 <;> cases c == 125 <;> cases c == 59 <;> cases c == 91 <;> cases c == 93 <;> cases c == 35 <;> rfl
theorem comment_ix : ∀ (w : Str), (indexStr [47, 42] w).isSome = hasComment w
  | [] => rfl
  | c :: t => by
    simp only [indexStr, hasComment, pre_begins]
    cases begins (c :: t) with
    | true => rfl
    | false =>
      simp only [Bool.false_eq_true, if_false, Bool.false_or, ← comment_ix t]
      cases indexStr [47, 42] t <;> rfl
section
variable {wm : TypeId → Bool} {n fl : Nat} {Q : Ex → VEnv → St → Prop} {k : List Lf} {σ : St} {w : Str}
theorem quoted_loop (hfl : fl ≤ σ.size) (hp : σ.pin ≤ σ.size) (hs : w.length ≤ 16777216)
    (hE : ∀ ρ', ρ' 0 = .str w → w.any isBad = false → contM P K X wm n fl true Q k (.exit 0) ρ' σ)
    (hR : ∀ ρ', ρ' 2 = .str [] → ρ' 3 = .bool false → w.any isBad = true → contM P K X wm n fl true Q k .ret ρ' σ) :
    ∀ (l pre : Str) (ρ : VEnv), w = pre ++ l → pre.any isBad = false → ρ 0 = .str w → (∃ o, ρ 7 = .vec o (w.map fun c => [byteCellV c])) → ρ 8 = .int .i64 w.length → ρ 9 = .int .i64 pre.length →
      loopM P K X wm n fl true Q l_tree_quoted_0 k ρ σ := by
  intro l
  induction l with
  | nil =>
    intro pre ρ hi hb r0 r7 r8 r9
    rw [List.append_nil] at hi
    subst hi
    refine loopM_at l_tree_quoted_0.eq_1 ?_
    simp [r8, r9, pinned hp]
    exact hE _ (by simp [r0]) hb
  | cons c t ih =>
    intro pre ρ hi hb r0 r7 r8 r9
    obtain ⟨o, r7⟩ := r7
    have hlen : pre.length < w.length := by rw [hi]; simp
    have hget : w[pre.length]? = some c := by rw [hi]; simp
    have hgi : w[pre.length] = c := by
      rw [List.getElem?_eq_getElem hlen] at hget
      exact Option.some.inj hget
    have hlt : (pre.length : Int) < (w.length : Int) := by omega
    have hw : IntKind.i64.wrap ((pre.length : Int) + 1) = (pre.length : Int) + 1 := wrap_i64 (by omega) (by omega)
    have hbi := isBad_iff c
    have hany : isBad c = true → w.any isBad = true := fun h => by rw [hi]; simp [h]
    refine loopM_at l_tree_quoted_0.eq_1 ?_
    simp [r7, r8, r9, pinned hp, hlen, hlt, hgi, byteCellV]
    by_cases h1 : (c.toNat : Int) < 32
    · simp [h1]
      exact hR _ (by simp) (by simp) (hany (hbi.2 (.inl h1)))
    · by_cases h2 : 126 < (c.toNat : Int)
      · simp [h1, h2]
        exact hR _ (by simp) (by simp) (hany (hbi.2 (.inr (.inl h2))))
      · by_cases h3 : (c.toNat : Int) = 34
        · simp [h1, h2, h3]
          exact hR _ (by simp) (by simp) (hany (hbi.2 (.inr (.inr h3))))
        · simp [h1, h2, h3, hw, pinned hp, r9]
          have hnb : isBad c = false := by
            cases hc : isBad c with
            | false => rfl
            | true => rcases hbi.1 hc with h | h | h <;> contradiction
          refine ih (pre ++ [c]) _ (by rw [hi]; simp) (by simp [hnb]; simpa using hb) ?_ ⟨o, ?_⟩ ?_ ?_
          all_goals simp [r0, r7, r8, byteCellV]
end
def quotedOut (q : Option Str) : V := .tuple [.str (q.getD []), .bool q.isSome]
def S_quoted (P : Program) (K : Knobs) (X : ExtV) (f : Nat) : Prop := ∀ (fl : Nat) (σ : St) (w : Str), fl ≤ σ.size → σ.pin ≤ σ.size → w.length ≤ 16777216 → Big P K X (.call fl f [.str w] σ (quotedOut (Tr.quoted w)) σ)
theorem quoted_ok {f fa fc : Nat} (ha : S_ContainsAny P K X fa) (hc : S_Contains P K X fc) (H : Has P K f false (c_tree_quoted fa fc)) : S_quoted P K X f := by
  intro fl σ w hfl hp hs
  have h : ∀ (R : V → St → Prop), R (quotedOut (Tr.quoted w)) σ → ∃ v σ', R v σ' ∧ Big P K X (.call fl f [.str w] σ v σ') := by
    intro R hR
    refine H_callE H (Nat.le_of_ble_eq_true rfl) ?_
    unfold Tr.quoted at hR
    simp [c_tree_quoted]
    refine quoted_loop (w := w) hfl hp hs ?_ ?_ w [] _ rfl rfl ?_ ⟨!w.isEmpty, ?_⟩ ?_ ?_
    · intro ρ' r0 hb
      rw [if_neg (by simp [hb])] at hR
      have hasc : ∀ c ∈ w, c < 128 := by
        intro d hd
        have hnb : isBad d = false := by
          rw [List.any_eq_false] at hb
          simpa using hb d hd
        have := isBad_iff d
        rw [UInt8.lt_iff_toNat_lt]
        have h128 : (128 : UInt8).toNat = 128 := rfl
        have : ¬ (126 < (d.toNat : Int)) := fun h => by
          rw [(isBad_iff d).2 (.inr (.inl h))] at hnb; cases hnb
        omega
      have hl1 : w.length < 33554432 ∧ w.length + 1 < 33554432 ∧ 1 + w.length ≤ 33554432 := by omega
      have hl2 : w.length + 1 ≤ 33554432 ∧ w.length + 1 + 1 ≤ 33554432 ∧ 1 + w.length + 1 ≤ 33554432 ∧ 1 + w.length < 33554432 := by omega
      have hsp : (w.any (fun x => ([32, 123, 125, 59, 91, 93, 35] : Str).contains x)) = w.any isSpecial := by
        congr 1; funext c; exact special_any c
      by_cases hw : w = []
      · subst hw
        simp [r0]
        simpa [quotedOut] using hR
      · have hw' : w.isEmpty = false := by cases w <;> simp_all
        have hwb : (w == []) = false := by cases w <;> simp_all
        simp [r0, hw, hwb]
        refine callM_of (ha _ _ w _ hfl hs hasc (by decide) (by decide)) ?_
        rw [hsp]
        cases hs1 : w.any isSpecial with
        | true =>
          simp [r0, hl1, hl2]
          simpa [quotedOut, hs1] using hR
        | false =>
          simp [r0]
          refine callM_of (hc _ _ w _ hfl hs) ?_
          rw [comment_ix]
          cases hcm : hasComment w with
          | true =>
            simp [r0, hl1, hl2]
            simpa [quotedOut, hcm] using hR
          | false =>
            simp [r0]
            simpa [quotedOut, hcm, hs1, hw'] using hR
    · intro ρ' r2 r3 hb
      rw [if_pos hb] at hR
      simpa [r2, r3, quotedOut] using hR
    all_goals simp
  obtain ⟨v, σ', ⟨rfl, rfl⟩, h2⟩ := h (fun v σ' => v = quotedOut (Tr.quoted w) ∧ σ' = σ) ⟨rfl, rfl⟩
  exact h2

/-! ### A builder -/
def S_WriteString (P : Program) (K : Knobs) (X : ExtV) (f tB uB : Nat) : Prop := ∀ (fl : Nat) (σ : St) (b : Nat) (s t : Str), fl ≤ b → σ.pin ≤ σ.size → σ.get b = some (.bld tB uB s) → s.length + t.length ≤ 4398046511104 →
    Big P K X (.call fl f [.ptr b 0, .str t] σ (.tuple [.int .i64 t.length, .undef]) (σ.put b (.bld tB uB (s ++ t))))
end Go.Vw.Wm
end
section
/- The walk of tree.write. -/
namespace Go.Vw.Wm
open Go Go.RowKit Go.Abs Go.Vw Lx Tr
set_option maxRecDepth 20000
set_option linter.unusedSimpArgs false
set_option linter.unusedVariables false
variable {P : Program} {K : Knobs} {X : ExtV}

mutual
/-- No more bytes than these are written. -/
def tb1 : Nat → Node → Nat
  | d, .mk ws _ _ ks => 8 * d + (ws.map fun w => w.length + 3).sum + 5 + tbs (d + 1) ks
def tbs : Nat → List Node → Nat
  | _, [] => 0
  | d, n :: r => tb1 d n + tbs d r
end
mutual
/-- No statement's words are longer than this. -/
def aw1 (W : Nat) : Node → Bool
  | .mk ws _ _ ks => decide ((ws.map fun w => w.length + 3).sum ≤ W) && aws W ks
def aws (W : Nat) : List Node → Bool
  | [] => true
  | n :: r => aw1 W n && aws W r
end
theorem aws_mem {W : Nat} : ∀ {l : List Node} {n : Node}, aws W l = true → n ∈ l → aw1 W n = true
  | [], _, _, h => by cases h
  | a :: l, n, h, hm => by
    simp only [aws, Bool.and_eq_true] at h
    rcases List.mem_cons.1 hm with rfl | hm
    · exact h.1
    · exact aws_mem h.2 hm
theorem sizes_len : ∀ (l : List Node), l.length ≤ sizes l
  | [] => by simp [sizes]
  | .mk ws po b ks :: l => by
    have := sizes_len l
    simp only [sizes, size1, List.length_cons]
    omega
theorem sizes_mem : ∀ {l : List Node} {n : Node}, n ∈ l → sizes n.kids ≤ sizes l
  | [], _, h => by cases h
  | .mk ws po b ks :: l, n, hm => by
    rcases List.mem_cons.1 hm with rfl | hm
    · simp only [sizes, size1, Node.kids]; omega
    · have := sizes_mem hm
      simp only [sizes]; omega
section
variable {wm : TypeId → Bool} {n fl : Nat} {Q : Ex → VEnv → St → Prop} {k : List Lf} {σ : St} {fq b8 b : Nat} {ws : List Str} {deep : Nat} {i : Nat} {l : List Node}
theorem qwords_loop (hfl : fl ≤ σ.size) (hp : σ.pin ≤ σ.size) (hq : S_quoted P K X fq) (hws : ∀ w ∈ ws, w.length ≤ 16777216) (hn : ws.length ≤ 16777216) (h8 : b8 < σ.size) (hb : b < σ.size)
    (hE : ∀ ρ' qs, ρ' 0 = .ptr b 0 → ρ' 2 = .int .i64 deep → ρ' 8 = .ptr b8 0 → ρ' 9 = .vec true (qs.map wordCell) → ρ' 15 = .vec false (encNs l) → ρ' 16 = .int .i64 l.length → ρ' 17 = .int .i64 i → quotes ws = some qs → contM P K X wm n fl true Q k (.exit 2) ρ' σ)
    (hR : ∀ ρ', ρ' 6 = .bool false → quotes ws = none → contM P K X wm n fl true Q k .ret ρ' σ) :
    ∀ (rest pre : List Str) (qs : List Str) (ρ : VEnv), ws = pre ++ rest → quotes ws = (quotes rest).map (qs ++ ·) → qs.length = pre.length → ρ 0 = .ptr b 0 → ρ 2 = .int .i64 deep → ρ 8 = .ptr b8 0 → ρ 9 = .vec true (qs.map wordCell) → ρ 15 = .vec false (encNs l) → ρ 16 = .int .i64 l.length → ρ 17 = .int .i64 i →
      ρ 45 = .vec false (ws.map wordCell) → ρ 46 = .int .i64 ws.length → ρ 47 = .int .i64 pre.length →
      loopM P K X wm n fl true Q (l_tree_write_0 fq) k ρ σ := by
  intro rest
  induction rest with
  | nil =>
    intro pre qs ρ hi hqs hql r0 r2 r8 r9 r15 r16 r17 r45 r46 r47
    rw [List.append_nil] at hi
    subst hi
    refine loopM_at (l_tree_write_0.eq_1 _) ?_
    simp [r46, r47, pinned hp]
    refine hE _ qs ?_ ?_ ?_ ?_ ?_ ?_ ?_ (by rw [hqs]; simp [quotes])
    all_goals simp [r0, r2, r8, r9, r15, r16, r17, hb, h8]
  | cons w rest ih =>
    intro pre qs ρ hi hqs hql r0 r2 r8 r9 r15 r16 r17 r45 r46 r47
    have hlen : pre.length < ws.length := by rw [hi]; simp
    have hget : ws[pre.length]? = some w := by rw [hi]; simp
    have hgi : ws[pre.length] = w := by
      rw [List.getElem?_eq_getElem hlen] at hget
      exact Option.some.inj hget
    have hlt : (pre.length : Int) < (ws.length : Int) := by omega
    have hw : IntKind.i64.wrap ((pre.length : Int) + 1) = (pre.length : Int) + 1 := wrap_i64 (by omega) (by omega)
    have hq1 : qs.length + 1 ≤ 33554432 := by omega
    refine loopM_at (l_tree_write_0.eq_1 _) ?_
    simp [r45, r46, r47, pinned hp, hlen, hlt, hgi, wordCell]
    refine callM_of (hq _ _ w (by simp [nearq hfl]) hp (hws w (by rw [hi]; simp))) ?_
    cases hqw : Tr.quoted w with
    | none =>
      have : quotes ws = none := by rw [hqs]; simp [quotes, hqw]
      simp [quotedOut]
      exact hR _ (by simp) this
    | some q =>
      simp [quotedOut, r9, hq1, hw, r47, pinned hp, wordCell]
      refine ih (pre ++ [w]) (qs ++ [q]) _ (by rw [hi]; simp) ?_ (by simp [hql]) ?_ ?_ ?_ ?_ ?_ ?_ ?_ ?_ ?_ ?_
      · rw [hqs]
        simp only [quotes, hqw]
        cases quotes rest <;> simp
      all_goals simp [r0, r2, r8, r15, r16, r17, r45, r46, hb, h8, wordCell]
end

def S_Repeat (P : Program) (K : Knobs) (X : ExtV) (f : Nat) : Prop := ∀ (fl : Nat) (σ : St) (s : Str) (n : Nat), fl ≤ σ.size → n ≤ 1000000 → s.length * n ≤ 16777216 → Big P K X (.call fl f [.str s, .int .i64 n] σ (.str (List.replicate n s).flatten) σ)
def S_Join (P : Program) (K : Knobs) (X : ExtV) (f : Nat) : Prop := ∀ (fl : Nat) (σ : St) (ws : List Str) (sep : Str), fl ≤ σ.size → ws.length ≤ 33554432 → (ws.map fun w => w.length + sep.length).sum ≤ 33554432 → Big P K X (.call fl f [.vec false (ws.map wordCell), .str sep] σ (.str (sep.intercalate ws)) σ)
theorem join_sp : ∀ (qs : List Str), ([32] : Str).intercalate qs = joinSp qs
  | [] => rfl
  | [q] => by simp [List.intercalate, joinSp]
  | q :: r :: l => by
    have := join_sp (r :: l)
    simp only [List.intercalate, joinSp] at this ⊢
    rw [← this]
    simp [List.intersperse]
theorem repeat_blanks (d : Nat) : (List.replicate d ([32, 32, 32, 32] : Str)).flatten = blanks (4 * d) := by
  unfold blanks
  induction d with
  | zero => rfl
  | succ d ih =>
    rw [List.replicate_succ, List.flatten_cons, ih, show 4 * (d + 1) = 4 + 4 * d by omega, ← List.replicate_append_replicate]
    rfl
theorem quoted_len {w q : Str} (h : Tr.quoted w = some q) : q.length ≤ w.length + 2 := by
  unfold Tr.quoted at h
  split at h
  · cases h
  · split at h
    · simp only [Option.some.injEq] at h; subst h; simp
    · simp only [Option.some.injEq] at h; subst h; omega
theorem quotes_len : ∀ {ws qs : List Str}, quotes ws = some qs → (qs.map fun q => q.length + 1).sum ≤ (ws.map fun w => w.length + 3).sum ∧ qs.length = ws.length
  | [], qs, h => by simp only [quotes, Option.some.injEq] at h; subst h; simp
  | w :: ws, qs, h => by
    simp only [quotes] at h
    split at h
    · rename_i q qs' h1 h2
      simp only [Option.some.injEq] at h
      subst h
      have := quotes_len h2
      have := quoted_len h1
      simp; omega
    · cases h
theorem joinSp_len : ∀ (qs : List Str), (joinSp qs).length ≤ (qs.map fun q => q.length + 1).sum
  | [] => by simp [joinSp]
  | [q] => by simp [joinSp]
  | q :: r :: l => by
    have := joinSp_len (r :: l)
    simp [joinSp] at this ⊢; omega
theorem sum_mem {ws : List Str} {w : Str} (h : w ∈ ws) : w.length ≤ (ws.map fun w => w.length + 3).sum := by
  induction ws with
  | nil => cases h
  | cons a ws ih =>
    rcases List.mem_cons.1 h with rfl | h
    · simp; omega
    · have := ih h; simp; omega
theorem sum_len (ws : List Str) : 3 * ws.length ≤ (ws.map fun w => w.length + 3).sum := by
  induction ws with
  | nil => simp
  | cons a ws ih => simp at ih ⊢; omega

theorem tbs_len : ∀ (l : List Node) (d : Nat), l.length ≤ tbs d l
  | [], d => by simp [tbs]
  | .mk ws po b ks :: l, d => by
    have := tbs_len l d
    simp only [tbs, tb1, List.length_cons]
    omega
def WriteOK (P : Program) (K : Knobs) (X : ExtV) (f tB uB : Nat) (l : List Node) : Prop := ∀ (fl : Nat) (σ : St) (b : Nat) (s : Str) (deep : Nat), fl ≤ b → σ.pin ≤ σ.size → σ.get b = some (.bld tB uB s) → deep ≤ 32 → s.length + tbs deep l ≤ 1099511627776 → sizes l ≤ 16777216 → aws 8388608 l = true →
    ∃ s', (s'.length ≤ s.length + tbs deep l ∧ ∀ t, prs deep l = some t → s' = s ++ t) ∧ Big P K X (.call fl f [.ptr b 0, .vec false (encNs l), .int .i64 deep] σ (.bool (prs deep l).isSome) (σ.put b (.bld tB uB s')))
section
variable {wm : TypeId → Bool} {n fl : Nat} {Q : Ex → VEnv → St → Prop} {k : List Lf} {σ0 : St} {fq fr fj fw fs b tB uB : Nat} {c0 : VObj} {deep : Nat} {l : List Node} {s0 : Str}
theorem write_loop (hfl : fl ≤ b) (hp : σ0.pin ≤ σ0.size) (hb : σ0.get b = some c0) (hq : S_quoted P K X fq) (hr : S_Repeat P K X fr) (hj : S_Join P K X fj) (hw : S_WriteString P K X fw tB uB) (hd : deep ≤ 32) (hz : sizes l ≤ 16777216) (haw : aws 8388608 l = true) (hs0 : s0.length + tbs deep l ≤ 1099511627776)
    (hk : ∀ nd ∈ l, WriteOK P K X fs tB uB nd.kids)
    (hE : ∀ ρ' s t, prs deep l = some t → s = s0 ++ t → contM P K X wm n fl true Q k (.exit 0) ρ' (σ0.put b (.bld tB uB s)))
    (hR : ∀ ρ' s c, ρ' 6 = .bool false → prs deep l = none → s.length ≤ s0.length + tbs deep l → contM P K X wm n fl true Q k .ret ρ' ((σ0.put b (.bld tB uB s)).push (.cells c))) :
    ∀ (rest pre : List Node) (s t : Str) (ρ : VEnv), l = pre ++ rest → prs deep l = (prs deep rest).map (t ++ ·) → s = s0 ++ t → s.length + tbs deep rest ≤ s0.length + tbs deep l → ρ 0 = .ptr b 0 → ρ 2 = .int .i64 deep → ρ 15 = .vec false (encNs l) → ρ 16 = .int .i64 l.length → ρ 17 = .int .i64 pre.length →
      loopM P K X wm n fl true Q (l_tree_write_1 fq fr fj fw fs) k ρ (σ0.put b (.bld tB uB s)) := by
  have hbs := get_lt hb
  have hl : l.length ≤ 16777216 := by have := sizes_len l; omega
  intro rest
  induction rest with
  | nil =>
    intro pre s t ρ hi hpr hs hsl r0 r2 r15 r16 r17
    rw [List.append_nil] at hi
    subst hi
    refine loopM_at (l_tree_write_1.eq_1 _ _ _ _ _) ?_
    simp [r16, r17, pinned hp]
    exact hE _ s t (by rw [hpr]; simp [prs]) hs
  | cons nd rest ih =>
    intro pre s t ρ hi hpr hs hsl r0 r2 r15 r16 r17
    have hlen : pre.length < l.length := by rw [hi]; simp
    have hget : l[pre.length]? = some nd := by rw [hi]; simp
    have hgi : l[pre.length] = nd := by
      rw [List.getElem?_eq_getElem hlen] at hget
      exact Option.some.inj hget
    have hlt : (pre.length : Int) < (l.length : Int) := by omega
    have hwp : IntKind.i64.wrap ((pre.length : Int) + 1) = (pre.length : Int) + 1 := wrap_i64 (by omega) (by omega)
    have hkn := hk nd (by rw [hi]; simp)
    have hsm := aws_mem haw (n := nd) (by rw [hi]; simp)
    have hzk := sizes_mem (l := l) (n := nd) (by rw [hi]; simp)
    obtain ⟨ws, po, bl, ks⟩ := nd
    have hnone : pr1 deep (.mk ws po bl ks) = none → prs deep l = none := by
      intro h; rw [hpr]; simp [prs, h]
    refine loopM_at (l_tree_write_1.eq_1 _ _ _ _ _) ?_
    cases ws with
    | nil =>
      simp [r15, r16, r17, pinned hp, hlen, hlt, encNs_map, hgi, encN, near hfl hbs]
      exact hR _ s _ (by simp) (hnone (by simp [pr1])) (by omega)
    | cons w ws =>
      have htb : tb1 deep (.mk (w :: ws) po bl ks) = 8 * deep + ((w :: ws).map fun w => w.length + 3).sum + 5 + tbs (deep + 1) ks := by simp only [tb1]
      have htbs : tbs deep (.mk (w :: ws) po bl ks :: rest) = tb1 deep (.mk (w :: ws) po bl ks) + tbs deep rest := by simp only [tbs]
      rw [htbs, htb] at hsl
      simp only [aw1, Bool.and_eq_true, decide_eq_true_eq] at hsm
      have hsw := hsm.1
      have hak := hsm.2
      simp only [Node.kids] at hzk
      have hwl : ∀ v ∈ w :: ws, v.length ≤ 16777216 := fun v hv => by have := sum_mem hv; omega
      have hwsn := sum_len (w :: ws)
      have hwn : ¬ ((ws.length : Int) + 1 = 0) := by omega
      cases bl with
      | false =>
        cases ks with
        | cons kd ks =>
          have hkn0 : (0 : Int) < (ks.length : Int) + 1 := by omega
          simp [r15, r16, r17, pinned hp, hlen, hlt, encNs_map, hgi, encN, near hfl hbs, hwn, hkn0]
          exact hR _ s _ (by simp) (hnone (by simp [pr1])) (by omega)
        | nil =>
          simp [r15, r16, r17, pinned hp, hlen, hlt, encNs_map, hgi, encN, encNs, near hfl hbs, hwn]
          refine qwords_loop (ws := w :: ws) (b8 := σ0.size) (b := b) (deep := deep) (i := pre.length) (l := l) (by simp [near hfl hbs]) (by simp [pinned hp]) hq hwl (by omega) (by simp) (by simp [near hfl hbs]) ?_ ?_ (w :: ws) [] [] _ rfl (by cases quotes (w :: ws) <;> simp) rfl ?_ ?_ ?_ ?_ ?_ ?_ ?_ ?_ ?_ ?_
          · intro ρ' qs r0' r2' r8' r9' r15' r16' r17' hqs
            have hql := quotes_len hqs
            have hjl := joinSp_len qs
            have hq1 := hql.1
            have hlb : (blanks (4 * deep)).length = 4 * deep := by simp [blanks]
            simp [r2', near hfl hbs]
            refine callM_of (hr _ _ _ deep (by simp [near hfl hbs]) (by omega) (by simp; omega)) ?_
            rw [repeat_blanks]
            simp [r0', r9', near hfl hbs]
            refine callM_of (hj _ _ qs [32] (by simp [near hfl hbs]) (by rw [hql.2]; have := hwsn; simp only [List.length_cons] at this ⊢; omega) (by have := hql.1; show (qs.map fun w => w.length + 1).sum ≤ _; omega)) ?_
            rw [join_sp]
            have hbl : (blanks (4 * deep)).length + (joinSp qs).length ≤ 33554432 := by simp [blanks]; omega
            simp [hbl, r0']
            refine callM_of (hw _ _ b s _ hfl (by simp [pinned hp]) (by simp [near hfl hbs, hb]) (by simp [blanks]; omega)) ?_
            simp [near hfl hbs, r8', r0', encN, encNs]
            refine callM_of (hw _ _ b (s ++ (blanks (4 * deep) ++ joinSp qs)) [59, 10] hfl (by simp [pinned hp]) (by simp [near hfl hbs, hb]) (by simp only [List.length_append, List.length_cons, List.length_nil]; omega)) ?_
            simp [near hfl hbs, pinned hp, r17', hwp]
            have hp1 : pr1 deep (.mk (w :: ws) po false []) = some (blanks (4 * deep) ++ joinSp qs ++ [59, 10]) := by simp [pr1, hqs]
            refine loopM_to (ih (pre ++ [.mk (w :: ws) po false []]) (s ++ (blanks (4 * deep) ++ joinSp qs ++ [59, 10])) (t ++ (blanks (4 * deep) ++ joinSp qs ++ [59, 10])) _ (by rw [hi]; simp) ?_ (by rw [hs]; simp) ?_ ?_ ?_ ?_ ?_ ?_) ?_
            · rw [hpr]
              simp only [prs, hp1]
              cases prs deep rest <;> simp
            · simp only [List.length_append, List.length_cons, List.length_nil]; omega
            all_goals simp [r0', r2', r15', r16', r17', encNs_map, near hfl hbs]
          · intro ρ' r6' hqs
            simp [r6']
            exact hR _ s _ r6' (hnone (by simp [pr1, hqs])) (by omega)
          all_goals simp [r0, r2, r15, r16, r17, encNs_map, near hfl hbs]
      | true =>
        by_cases h32 : 32 ≤ deep
        · have h32' : (32 : Int) ≤ (deep : Int) := by omega
          simp [r2, r15, r16, r17, pinned hp, hlen, hlt, encNs_map, hgi, encN, near hfl hbs, hwn, h32']
          exact hR _ s _ (by simp) (hnone (by simp [pr1, h32])) (by omega)
        · have h32' : ¬ ((32 : Int) ≤ (deep : Int)) := by omega
          simp [r2, r15, r16, r17, pinned hp, hlen, hlt, encNs_map, hgi, encN, near hfl hbs, hwn, h32']
          have hkn' : WriteOK P K X fs tB uB ks := hkn
          have hwd : IntKind.i64.wrap ((deep : Int) + 1) = ((deep + 1 : Nat) : Int) := wrap_i64 (by omega) (by omega)
          refine qwords_loop (ws := w :: ws) (b8 := σ0.size) (b := b) (deep := deep) (i := pre.length) (l := l) (by simp [near hfl hbs]) (by simp [pinned hp]) hq hwl (by omega) (by simp) (by simp [near hfl hbs]) ?_ ?_ (w :: ws) [] [] _ rfl (by cases quotes (w :: ws) <;> simp) rfl ?_ ?_ ?_ ?_ ?_ ?_ ?_ ?_ ?_ ?_
          · intro ρ' qs r0' r2' r8' r9' r15' r16' r17' hqs
            have hql := quotes_len hqs
            have hjl := joinSp_len qs
            have hq1 := hql.1
            have hlb : (blanks (4 * deep)).length = 4 * deep := by simp [blanks]
            simp [r2', near hfl hbs]
            refine callM_of (hr _ _ _ deep (by simp [near hfl hbs]) (by omega) (by simp; omega)) ?_
            rw [repeat_blanks]
            simp [r0', r9', near hfl hbs]
            refine callM_of (hj _ _ qs [32] (by simp [near hfl hbs]) (by rw [hql.2]; have := hwsn; simp only [List.length_cons] at this ⊢; omega) (by have := hql.1; show (qs.map fun w => w.length + 1).sum ≤ _; omega)) ?_
            rw [join_sp]
            have hbl : (blanks (4 * deep)).length + (joinSp qs).length ≤ 33554432 := by omega
            have hbl2 : (blanks (4 * deep)).length + 2 ≤ 33554432 := by omega
            simp [hbl, r0']
            refine callM_of (hw _ _ b s _ hfl (by simp [pinned hp]) (by simp [near hfl hbs, hb]) (by simp only [List.length_append]; omega)) ?_
            simp [near hfl hbs, r8', r0', encN, encNs]
            refine callM_of (hw _ _ b (s ++ (blanks (4 * deep) ++ joinSp qs)) [32, 123, 10] hfl (by simp [pinned hp]) (by simp [near hfl hbs, hb]) (by simp only [List.length_append, List.length_cons, List.length_nil]; omega)) ?_
            simp [near hfl hbs, r8', r0', r2', hwd]
            have hpk : ∀ k, prs (deep + 1) ks = some k → pr1 deep (.mk (w :: ws) po true ks) = some (blanks (4 * deep) ++ joinSp qs ++ [32, 123, 10] ++ k ++ blanks (4 * deep) ++ [125, 10]) := by
              intro k hk; simp [pr1, hqs, hk]; omega
            have hpn : prs (deep + 1) ks = none → pr1 deep (.mk (w :: ws) po true ks) = none := by
              intro hk; simp [pr1, hqs, hk]
            rw [← encNs_map ks]
            refine callM_ex1 (hkn' _ _ b (s ++ (blanks (4 * deep) ++ joinSp qs) ++ [32, 123, 10]) (deep + 1) hfl (by simp [pinned hp]) (by simp [near hfl hbs, hb]) (by omega) (by simp only [List.length_append, List.length_cons, List.length_nil]; omega) (by omega) hak) ?_
            intro s2 ⟨hs2, ht2⟩
            cases hkp : prs (deep + 1) ks with
            | none =>
              simp [near hfl hbs]
              exact hR _ s2 _ (by simp) (hnone (hpn hkp)) (by simp only [List.length_append, List.length_cons, List.length_nil] at hs2; omega)
            | some kt =>
              have hs2' := ht2 kt hkp
              simp [near hfl hbs, hbl2, r0']
              have hs2l := hs2
              simp only [List.length_append, List.length_cons, List.length_nil] at hs2l
              refine callM_of (hw _ _ b s2 (blanks (4 * deep) ++ [125, 10]) hfl (by simp [pinned hp]) (by simp [near hfl hbs, hb]) (by simp only [List.length_append, List.length_cons, List.length_nil]; omega)) ?_
              simp [near hfl hbs, pinned hp, r17', hwp]
              have hp1 := hpk kt hkp
              refine loopM_to (ih (pre ++ [.mk (w :: ws) po true ks]) (s2 ++ (blanks (4 * deep) ++ [125, 10])) (t ++ (blanks (4 * deep) ++ joinSp qs ++ [32, 123, 10] ++ kt ++ blanks (4 * deep) ++ [125, 10])) _ (by rw [hi]; simp) ?_ (by rw [hs2', hs]; simp) ?_ ?_ ?_ ?_ ?_ ?_) ?_
              · rw [hpr]
                simp only [prs, hp1]
                cases prs deep rest <;> simp
              · simp only [List.length_append, List.length_cons, List.length_nil]; omega
              all_goals simp [r0', r2', r15', r16', r17', encNs_map, near hfl hbs]
          · intro ρ' r6' hqs
            simp [r6']
            exact hR _ s _ r6' (hnone (by simp [pr1, hqs])) (by omega)
          all_goals simp [r0, r2, r15, r16, r17, encNs_map, near hfl hbs]
end
end Go.Vw.Wm
end
section
/- The walks of tree.write and tree.Print. -/
namespace Go.Vw.Wm
open Go Go.RowKit Go.Abs Go.Vw Lx Tr
set_option maxRecDepth 20000
set_option linter.unusedSimpArgs false
set_option linter.unusedVariables false
variable {P : Program} {K : Knobs} {X : ExtV}
mutual
theorem pr1_tb : ∀ (nd : Node) (d : Nat) (t : Str), pr1 d nd = some t → t.length ≤ tb1 d nd
  | .mk ws po b ks, d, t, h => by
    simp only [pr1] at h
    split at h
    · cases h
    · cases hq : quotes ws with
      | none => rw [hq] at h; cases h
      | some qs =>
        rw [hq] at h
        have hql := (quotes_len hq).1
        have hjl := joinSp_len qs
        simp only at h
        split at h
        · cases hk : prs (d + 1) ks with
          | none => rw [hk] at h; cases h
          | some k =>
            rw [hk] at h
            simp only [Option.some.injEq] at h
            have := prs_tbs ks (d + 1) k hk
            rw [← h]
            simp only [List.length_append, List.length_cons, List.length_nil, blanks, List.length_replicate, tb1]
            omega
        · simp only [Option.some.injEq] at h
          rw [← h]
          simp only [List.length_append, List.length_cons, List.length_nil, blanks, List.length_replicate, tb1]
          omega
theorem prs_tbs : ∀ (l : List Node) (d : Nat) (t : Str), prs d l = some t → t.length ≤ tbs d l
  | [], d, t, h => by
    simp only [prs, Option.some.injEq] at h
    subst h; simp [tbs]
  | n :: r, d, t, h => by
    simp only [prs] at h
    split at h
    · rename_i a b h1 h2
      simp only [Option.some.injEq] at h
      have := pr1_tb n d a h1
      have := prs_tbs r d b h2
      rw [← h]
      simp only [List.length_append, tbs]
      omega
    · cases h
end
theorem write_step {fs fq fr fj fw tB uB : Nat} (hq : S_quoted P K X fq) (hr : S_Repeat P K X fr) (hj : S_Join P K X fj) (hw : S_WriteString P K X fw tB uB) (H : Has P K fs false (c_tree_write fq fr fj fw fs)) {l : List Node} (hk : ∀ nd ∈ l, WriteOK P K X fs tB uB nd.kids) : WriteOK P K X fs tB uB l := by
  intro fl σ b s deep hfl hp hb hd hs hz haw
  have hbs := get_lt hb
  have h : ∃ v σ', (∃ s', (s'.length ≤ s.length + tbs deep l ∧ ∀ t, prs deep l = some t → s' = s ++ t) ∧ v = .bool (prs deep l).isSome ∧ σ' = σ.put b (.bld tB uB s')) ∧ Big P K X (.call fl fs [.ptr b 0, .vec false (encNs l), .int .i64 deep] σ v σ') := by
    refine H_callE H (Nat.le_of_ble_eq_true rfl) ?_
    simp [c_tree_write]
    refine loopM_to (write_loop (s0 := s) (deep := deep) (l := l) hfl hp hb hq hr hj hw hd hz haw hs hk ?_ ?_ l [] s [] _ rfl (by cases prs deep l <;> simp) (by simp) (Nat.le_refl _) ?_ ?_ ?_ ?_ ?_) ?_
    · intro ρ' s' t ht hst
      have htl := prs_tbs l deep t ht
      simp [near hfl hbs, pinned hp]
      exact ⟨s', ⟨by rw [hst, List.length_append]; omega, fun t' ht' => by rw [ht] at ht'; cases ht'; exact hst⟩, by simp [ht], rfl⟩
    · intro ρ' s' c r6 ht hsl
      simp [near hfl hbs, pinned hp, r6]
      exact ⟨s', ⟨hsl, fun t' ht' => by rw [ht] at ht'; cases ht'⟩, by simp [ht], rfl⟩
    all_goals try simp [encNs_map]
    exact (put_get hb).symm
  obtain ⟨v, σ', ⟨s', h1, rfl, rfl⟩, h2⟩ := h
  exact ⟨s', h1, h2⟩

theorem write_kids {fs fq fr fj fw tB uB : Nat} (hq : S_quoted P K X fq) (hr : S_Repeat P K X fr) (hj : S_Join P K X fj) (hw : S_WriteString P K X fw tB uB) (H : Has P K fs false (c_tree_write fq fr fj fw fs)) : ∀ (l : List Node), ∀ nd ∈ l, WriteOK P K X fs tB uB nd.kids
  | [], nd, h => by cases h
  | .mk ws po b ks :: r, nd, h => by
    rcases List.mem_cons.1 h with rfl | h
    · exact write_step hq hr hj hw H (write_kids hq hr hj hw H ks)
    · exact write_kids hq hr hj hw H r nd h
def S_write (P : Program) (K : Knobs) (X : ExtV) (f tB uB : Nat) : Prop := ∀ l, WriteOK P K X f tB uB l
theorem write_ok {fs fq fr fj fw tB uB : Nat} (hq : S_quoted P K X fq) (hr : S_Repeat P K X fr) (hj : S_Join P K X fj) (hw : S_WriteString P K X fw tB uB) (H : Has P K fs false (c_tree_write fq fr fj fw fs)) : S_write P K X fs tB uB := fun l => write_step hq hr hj hw H (write_kids hq hr hj hw H l)
def S_String (P : Program) (K : Knobs) (X : ExtV) (f tB uB : Nat) : Prop := ∀ (fl : Nat) (σ : St) (b : Nat) (s : Str), fl ≤ b → σ.pin ≤ σ.size → σ.get b = some (.bld tB uB s) → s.length ≤ 4398046511104 →
    Big P K X (.call fl f [.ptr b 0] σ (.str s) (σ.put b .dead))
def printOut : Option Str → V
  | some t => .tuple [.str t, .int .i64 0]
  | none => .tuple [.str [], .int .i64 1]
def S_Print (P : Program) (K : Knobs) (X : ExtV) (f : Nat) : Prop := ∀ (fl : Nat) (σ : St) (l : List Node), fl ≤ σ.size → σ.pin ≤ σ.size → tbs 0 l ≤ 1099511627776 → sizes l ≤ 16777216 → aws 8388608 l = true →
    Big P K X (.call fl f [.vec false (encNs l)] σ (printOut (prs 0 l)) σ)
theorem Print_ok {f fw fs tB uB : Nat} (hw : S_write P K X fw tB uB) (hs : S_String P K X fs tB uB) (H : Has P K f false (c_tree_Print fw fs tB uB)) : S_Print P K X f := by
  intro fl σ l hfl hp ht hz haw
  have h : ∀ (R : V → St → Prop), R (printOut (prs 0 l)) σ → ∃ v σ', R v σ' ∧ Big P K X (.call fl f [.vec false (encNs l)] σ v σ') := by
    intro R hR
    refine H_callE H (Nat.le_of_ble_eq_true rfl) ?_
    simp [c_tree_Print]
    refine callM_ex1 (hw l _ _ σ.size [] 0 (by simp [nearq hfl]) (by simp [pinned hp]) (by simp) (by omega) (by simpa using ht) hz haw) ?_
    intro s ⟨hsl, hst⟩
    cases hpr : prs 0 l with
    | none =>
      rw [hpr] at hR
      simp [nearq hfl, pinned hp]
      exact hR
    | some t =>
      have := hst t hpr
      rw [hpr] at hR
      simp at this
      subst this
      simp [nearq hfl, pinned hp]
      refine callM_of (hs _ _ σ.size s (by simp [nearq hfl]) (by simp [pinned hp]) (by simp) (by simp only [List.length_nil, Nat.zero_add] at hsl; omega)) ?_
      simp [nearq hfl, pinned hp]
      exact hR
  obtain ⟨v, σ', ⟨rfl, rfl⟩, h2⟩ := h (fun v σ' => v = printOut (prs 0 l) ∧ σ' = σ) ⟨rfl, rfl⟩
  exact h2
end Go.Vw.Wm
end
section
/- The library's answers in one's own words. -/
namespace Go.Vw.Wm
open Go Go.RowKit Go.Abs Go.Vw Lx Tr
theorem ixO_map (o : Option Nat) : ixO (o.map (· + 1)) = if (ixO o == -1) = true then -1 else ixO o + 1 := by
  cases o with
  | none => rfl
  | some i =>
    have h : (ixO (some i) == -1) = false := by
      simp [ixO]
    rw [h]
    simp [ixO]
theorem lib_indexByte : ∀ (s : Str) (c : UInt8), Lib.indexByte s c = ixO (s.findIdx? (· == c))
  | [], c => rfl
  | a :: s, c => by
    rw [List.findIdx?_cons, Lib.indexByte, lib_indexByte s c]
    by_cases h : (a == c) = true
    · rw [if_pos h, if_pos h]; rfl
    · rw [if_neg h, if_neg h, ixO_map]
theorem lib_index : ∀ (s p : Str), Lib.index s p = ixO (indexStr p s)
  | [], p => by
    rw [Lib.index, indexStr]
    cases p.isEmpty <;> rfl
  | a :: s, p => by
    rw [Lib.index, indexStr, lib_index s p]
    by_cases h : p.isPrefixOf (a :: s) = true
    · rw [if_pos h, if_pos h]; rfl
    · rw [if_neg h, if_neg h, ixO_map]
theorem lib_contains (s p : Str) : Lib.contains s p = (indexStr p s).isSome := by
  rw [Lib.contains, lib_index, ixO_dec]
theorem lib_indexAny : ∀ (s cs : Str), Lib.indexAny s cs = ixO (s.findIdx? (cs.contains ·))
  | [], cs => rfl
  | a :: s, cs => by
    rw [List.findIdx?_cons, Lib.indexAny, lib_indexAny s cs]
    by_cases h : cs.contains a = true
    · rw [if_pos h, if_pos h]; rfl
    · rw [if_neg h, if_neg h, ixO_map]
theorem lib_containsAny (s cs : Str) : Lib.containsAny s cs = s.any cs.contains := by
  rw [Lib.containsAny, lib_indexAny, ixO_dec, List.findIdx?_isSome]
theorem lib_repeat (s : Str) : ∀ n, Lib.repeatL s n = (List.replicate n s).flatten
  | 0 => rfl
  | n + 1 => by rw [Lib.repeatL, lib_repeat s n, List.replicate_succ, List.flatten_cons]
end Go.Vw.Wm
end
section
/- Library functions that answer texts and numbers alone. -/
namespace Go.Abs
open Go Go.RowKit
def isByte (c : Int) : Bool := decide (0 ≤ c) && decide (c < 256)
def eIndexByte : List AV → Option AV
  | [.str s, .int .u8 c] => some (.int .i64 (Lib.indexByte s c.toNat.toUInt8))
  | _ => none
def eHasPrefix : List AV → Option AV
  | [.str s, .str p] => some (.bool (Lib.hasPrefix s p))
  | _ => none
def eIndex : List AV → Option AV
  | [.str s, .str p] => if s.length ≤ 16777216 then some (.int .i64 (Lib.index s p)) else none
  | _ => none
def eContains : List AV → Option AV
  | [.str s, .str p] => if s.length ≤ 16777216 then some (.bool (Lib.contains s p)) else none
  | _ => none
def ascii (s : List UInt8) : Bool := s.all fun c => decide (c.toNat < 128)
def eIndexAny : List AV → Option AV
  | [.str s, .str p] => if s.length ≤ 16777216 ∧ p.length ≤ 16777216 ∧ ascii s = true ∧ ascii p = true then some (.int .i64 (Lib.indexAny s p)) else none
  | _ => none
def eContainsAny : List AV → Option AV
  | [.str s, .str p] => if s.length ≤ 16777216 ∧ p.length ≤ 16777216 ∧ ascii s = true ∧ ascii p = true then some (.bool (Lib.containsAny s p)) else none
  | _ => none
def eRepeat : List AV → Option AV
  | [.str s, .int .i64 n] => if 0 ≤ n ∧ n ≤ 9223372036854775807 ∧ s.length * n.toNat ≤ 140737488355328 then some (.str (Lib.repeatL s n.toNat)) else none
  | _ => none
def pureExt (e : List AV → Option AV) : List AV → AH → Option (AV × AH) := fun args H => (e args).map fun v => (v, H)

/-- What is asked of one contract. -/
def ExtOne (P : Program) (w0 : World) (f : Nat) (c : List AV → AH → Option (AV × AH)) : Prop := ∀ args H v H', c args H = some (v, H') → H.next ≤ H'.next ∧ ∀ L m w (us : Array Value), H'.next ≤ L → R w0 L m H w → VRs m args us.toList →
    Calls P f us w fun e w' => ∃ u m', e = .returned u ∧ Step m H w m' H' w' ∧ VR m' v u ∧ R w0 L m' H' w'
section
variable {P : Program} {w0 : World}
theorem arr_of {m : M} {x y : AV} {us : Array Value} (h : VRs m [x, y] us.toList) : ∃ a b, us = #[a, b] ∧ VR m x a ∧ VR m y b := by
  obtain ⟨us⟩ := us
  cases h with
  | cons _ a _ _ h1 h2 =>
    cases h2 with
    | cons _ b _ _ h3 h4 =>
      cases h4
      exact ⟨a, b, rfl, h1, h3⟩
theorem one_IndexByte {f : Nat} (hc : ∀ (s : ByteArray) (c : Int) (w : World), Calls P f #[.string s, .int .u8 c] w fun e w' => e = .returned (.int .i64 (Lib.indexByte s.data.toList c.toNat.toUInt8)) ∧ w' = w) : ExtOne P w0 f (pureExt eIndexByte) := by
  intro args H v H' h
  simp only [pureExt, Option.map_eq_some_iff, Prod.mk.injEq] at h
  obtain ⟨v', h1, rfl, rfl⟩ := h
  refine ⟨Nat.le_refl _, fun L m w us _ hR hA => ?_⟩
  unfold eIndexByte at h1
  split at h1
  · rename_i s c
    simp only [Option.some.injEq] at h1
    subst h1
    obtain ⟨a, b, rfl, k1, k2⟩ := arr_of hA
    cases k1; cases k2
    exact ext_same hR (.int _ _) (hc ⟨s.toArray⟩ c w)
  · cases h1
theorem one_HasPrefix {f : Nat} (hc : ∀ (s p : ByteArray) (w : World), Calls P f #[.string s, .string p] w fun e w' => e = .returned (.bool (Lib.hasPrefix s.data.toList p.data.toList)) ∧ w' = w) : ExtOne P w0 f (pureExt eHasPrefix) := by
  intro args H v H' h
  simp only [pureExt, Option.map_eq_some_iff, Prod.mk.injEq] at h
  obtain ⟨v', h1, rfl, rfl⟩ := h
  refine ⟨Nat.le_refl _, fun L m w us _ hR hA => ?_⟩
  unfold eHasPrefix at h1
  split at h1
  · rename_i s c
    simp only [Option.some.injEq] at h1
    subst h1
    obtain ⟨a, b, rfl, k1, k2⟩ := arr_of hA
    cases k1; cases k2
    exact ext_same hR (.bool _) (hc ⟨s.toArray⟩ ⟨c.toArray⟩ w)
  · cases h1
theorem ascii_get {s : List UInt8} (h : ascii s = true) : ∀ (j : Nat) b, s[j]? = some b → b.toNat < 128 := by
  intro j b hj
  have := List.all_eq_true.1 h b (List.mem_of_getElem? hj)
  simpa using this
/-- The cell of the machine's look-up limit. -/
def MaxCell (w0 : World) : Prop := 0 < w0.heap.size ∧ ∃ m, w0.cell? ⟨0, 0, none⟩ = some (.int .i64 m)
theorem MaxCell.at {m : M} {H : AH} {w : World} {L : Nat} (h : MaxCell w0) (hR : R w0 L m H w) : ∃ m, w.cell? ⟨0, 0, none⟩ = some (.int .i64 m) := by
  obtain ⟨h1, m, h2⟩ := h
  refine ⟨m, ?_⟩
  rw [← h2]
  unfold World.cell?
  rw [hR.below.block 0 h1]
theorem one_Index {f : Nat} (hm : MaxCell w0) (hc : ∀ (s p : ByteArray) (m : Int) (w : World), s.size < 4294967281 → w.cell? ⟨0, 0, none⟩ = some (.int .i64 m) → Calls P f #[.string s, .string p] w fun e w' => e = .returned (.int .i64 (Lib.index s.data.toList p.data.toList)) ∧ w' = w) : ExtOne P w0 f (pureExt eIndex) := by
  intro args H v H' h
  simp only [pureExt, Option.map_eq_some_iff, Prod.mk.injEq] at h
  obtain ⟨v', h1, rfl, rfl⟩ := h
  refine ⟨Nat.le_refl _, fun L m w us _ hR hA => ?_⟩
  unfold eIndex at h1
  split at h1
  · rename_i s c
    split at h1
    · rename_i hcond
      simp only [Option.some.injEq] at h1
      subst h1
      obtain ⟨a, b, rfl, k1, k2⟩ := arr_of hA
      cases k1; cases k2
      obtain ⟨mm, hmm⟩ := hm.at hR
      exact ext_same hR (.int _ _) (hc ⟨s.toArray⟩ ⟨c.toArray⟩ mm w (by simp only [ByteArray.size, List.size_toArray]; omega) hmm)
    · cases h1
  · cases h1
theorem one_Contains {f : Nat} (hm : MaxCell w0) (hc : ∀ (s p : ByteArray) (m : Int) (w : World), s.size < 4294967281 → w.cell? ⟨0, 0, none⟩ = some (.int .i64 m) → Calls P f #[.string s, .string p] w fun e w' => e = .returned (.bool (Lib.contains s.data.toList p.data.toList)) ∧ w' = w) : ExtOne P w0 f (pureExt eContains) := by
  intro args H v H' h
  simp only [pureExt, Option.map_eq_some_iff, Prod.mk.injEq] at h
  obtain ⟨v', h1, rfl, rfl⟩ := h
  refine ⟨Nat.le_refl _, fun L m w us _ hR hA => ?_⟩
  unfold eContains at h1
  split at h1
  · rename_i s c
    split at h1
    · rename_i hcond
      simp only [Option.some.injEq] at h1
      subst h1
      obtain ⟨a, b, rfl, k1, k2⟩ := arr_of hA
      cases k1; cases k2
      obtain ⟨mm, hmm⟩ := hm.at hR
      exact ext_same hR (.bool _) (hc ⟨s.toArray⟩ ⟨c.toArray⟩ mm w (by simp only [ByteArray.size, List.size_toArray]; omega) hmm)
    · cases h1
  · cases h1
theorem one_IndexAny {f : Nat} (hc : ∀ (s p : ByteArray) (w : World), s.size < 4294967281 → p.size < 4294967281 → (∀ (j : Nat) b, s.data.toList[j]? = some b → b.toNat < 128) → (∀ (j : Nat) b, p.data.toList[j]? = some b → b.toNat < 128) → Calls P f #[.string s, .string p] w fun e w' => e = .returned (.int .i64 (Lib.indexAny s.data.toList p.data.toList)) ∧ Below w.heap.size w w') : ExtOne P w0 f (pureExt eIndexAny) := by
  intro args H v H' h
  simp only [pureExt, Option.map_eq_some_iff, Prod.mk.injEq] at h
  obtain ⟨v', h1, rfl, rfl⟩ := h
  refine ⟨Nat.le_refl _, fun L m w us _ hR hA => ?_⟩
  unfold eIndexAny at h1
  split at h1
  · rename_i s c
    split at h1
    · rename_i hcond
      simp only [Option.some.injEq] at h1
      subst h1
      obtain ⟨a, b, rfl, k1, k2⟩ := arr_of hA
      cases k1; cases k2
      exact ext_later hR (.int _ _) (hc ⟨s.toArray⟩ ⟨c.toArray⟩ w (by simp only [ByteArray.size, List.size_toArray]; omega) (by simp only [ByteArray.size, List.size_toArray]; omega) (ascii_get hcond.2.2.1) (ascii_get hcond.2.2.2))
    · cases h1
  · cases h1
theorem one_ContainsAny {f : Nat} (hc : ∀ (s p : ByteArray) (w : World), s.size < 4294967281 → p.size < 4294967281 → (∀ (j : Nat) b, s.data.toList[j]? = some b → b.toNat < 128) → (∀ (j : Nat) b, p.data.toList[j]? = some b → b.toNat < 128) → Calls P f #[.string s, .string p] w fun e w' => e = .returned (.bool (Lib.containsAny s.data.toList p.data.toList)) ∧ Below w.heap.size w w') : ExtOne P w0 f (pureExt eContainsAny) := by
  intro args H v H' h
  simp only [pureExt, Option.map_eq_some_iff, Prod.mk.injEq] at h
  obtain ⟨v', h1, rfl, rfl⟩ := h
  refine ⟨Nat.le_refl _, fun L m w us _ hR hA => ?_⟩
  unfold eContainsAny at h1
  split at h1
  · rename_i s c
    split at h1
    · rename_i hcond
      simp only [Option.some.injEq] at h1
      subst h1
      obtain ⟨a, b, rfl, k1, k2⟩ := arr_of hA
      cases k1; cases k2
      exact ext_later hR (.bool _) (hc ⟨s.toArray⟩ ⟨c.toArray⟩ w (by simp only [ByteArray.size, List.size_toArray]; omega) (by simp only [ByteArray.size, List.size_toArray]; omega) (ascii_get hcond.2.2.1) (ascii_get hcond.2.2.2))
    · cases h1
  · cases h1
theorem one_Repeat {f : Nat} (hc : ∀ (s : ByteArray) (c : Nat) (w : World), c ≤ 9223372036854775807 → s.size * c ≤ 140737488355328 → Calls P f #[.string s, .int .i64 c] w fun e w' => e = .returned (.string ⟨(Lib.repeatL s.data.toList c).toArray⟩) ∧ Below w.heap.size w w') : ExtOne P w0 f (pureExt eRepeat) := by
  intro args H v H' h
  simp only [pureExt, Option.map_eq_some_iff, Prod.mk.injEq] at h
  obtain ⟨v', h1, rfl, rfl⟩ := h
  refine ⟨Nat.le_refl _, fun L m w us _ hR hA => ?_⟩
  unfold eRepeat at h1
  split at h1
  · rename_i s c
    split at h1
    · rename_i hcond
      simp only [Option.some.injEq] at h1
      subst h1
      obtain ⟨a, b, rfl, k1, k2⟩ := arr_of hA
      cases k1; cases k2
      have hn : ((c.toNat : Nat) : Int) = c := Int.toNat_of_nonneg hcond.1
      have hh := hc ⟨s.toArray⟩ c.toNat w (by omega) (by simp only [ByteArray.size, List.size_toArray]; exact hcond.2.2)
      rw [hn] at hh
      exact ext_later hR (.str _) hh
    · cases h1
  · cases h1
end
end Go.Abs
end
section
/- strings.Join, for the first evaluator. -/
namespace Go.Abs
open Go Go.RowKit
def strsA : List AV → Option (List (List UInt8))
  | [] => some []
  | .str s :: r => (strsA r).map (s :: ·)
  | _ => none
def eJoin : List AV → AH → Option (AV × AH)
  | [.nils, .str _], H => some (.str [], H)
  | [.slice b off len _ esz, .str sep], H => if len = 0 then some (.str [], H) else if esz ≠ 1 then none else
      match (rd H b off len).bind strsA with
      | some ws => if ws.length ≤ 140737488355328 ∧ (Lib.join ws sep).length ≤ 140737488355328 then some (.str (Lib.join ws sep), H) else none
      | none => none
  | _, _ => none
theorem strsA_vals {m : M} : ∀ {l : List AV} {ws : List (List UInt8)} {us : List Value}, strsA l = some ws → VRs m l us → us = ws.map fun s => .string ⟨s.toArray⟩
  | [], ws, us, h, hv => by
    simp only [strsA, Option.some.injEq] at h
    subst h
    cases hv
    rfl
  | x :: l, ws, us, h, hv => by
    cases hv with
    | cons _ u _ c h1 h2 =>
      cases x with
      | str s =>
        simp only [strsA, Option.map_eq_some_iff] at h
        obtain ⟨r, hr, rfl⟩ := h
        rw [strsA_vals hr h2]
        cases h1
        rfl
      | _ => cases h
section
variable {P : Program} {w0 : World}
theorem one_Join {f : Nat} (h0 : ∀ (a : Option Addr) (c : Nat) (sep : ByteArray) (w : World), Calls P f #[.slice a 0 c, .string sep] w fun e w' => e = .returned (.string ⟨#[]⟩) ∧ w' = w)
    (hc : ∀ (bk o c : Nat) (xs : List ByteArray) (sep : ByteArray) (w : World), (∀ (j : Nat) x, xs[j]? = some x → w.cell? ⟨bk, o + j, none⟩ = some (.string x)) → bk < w.heap.size → xs.length ≤ 140737488355328 → xs.length ≤ c → (Lib.join (xs.map (·.data.toList)) sep.data.toList).length ≤ 140737488355328 →
      Calls P f #[.slice (some ⟨bk, o, none⟩) xs.length c, .string sep] w fun e w' => e = .returned (.string ⟨(Lib.join (xs.map (·.data.toList)) sep.data.toList).toArray⟩) ∧ Below w.heap.size w w') : ExtOne P w0 f eJoin := by
  intro args H v H' h
  unfold eJoin at h
  split at h
  · rename_i sep
    simp only [Option.some.injEq, Prod.mk.injEq] at h
    obtain ⟨rfl, rfl⟩ := h
    refine ⟨Nat.le_refl _, fun L m w us _ hR hA => ?_⟩
    obtain ⟨a, b, rfl, k1, k2⟩ := arr_of hA
    cases k1; cases k2
    exact ext_same hR (.str []) (h0 none 0 ⟨sep.toArray⟩ w)
  · rename_i b off len cap esz sep
    split at h
    · rename_i hl
      subst hl
      simp only [Option.some.injEq, Prod.mk.injEq] at h
      obtain ⟨rfl, rfl⟩ := h
      refine ⟨Nat.le_refl _, fun L m w us _ hR hA => ?_⟩
      obtain ⟨a, b, rfl, k1, k2⟩ := arr_of hA
      cases k2
      cases k1 with
      | slice _ _ _ _ _ g o n a c g1 g2 g3 g4 => exact ext_same hR (.str []) (h0 (some a) c ⟨sep.toArray⟩ w)
    · rename_i hl
      split at h
      · cases h
      rename_i hesz
      have hesz : esz = 1 := Classical.not_not.1 hesz
      subst hesz
      split at h
      · rename_i ws hw
        split at h
        · rename_i hb
          simp only [Option.some.injEq, Prod.mk.injEq] at h
          obtain ⟨rfl, rfl⟩ := h
          refine ⟨Nat.le_refl _, fun L m w us _ hR hA => ?_⟩
          obtain ⟨a, b, rfl, k1, k2⟩ := arr_of hA
          cases k2
          cases k1 with
          | slice _ _ _ _ _ g o n a c g1 g2 g3 g4 =>
            obtain ⟨ha, _⟩ := g4 (by omega)
            subst ha
            cases hr : rd H _ off len with
            | none => rw [hr] at hw; cases hw
            | some l =>
              rw [hr] at hw
              simp only [Option.bind_some] at hw
              obtain ⟨us, e1, e2, e3⟩ := hR.read hr g1
              have e4 := strsA_vals hw e2
              subst e4
              have hlen : ws.length = len := by simpa using e1
              subst hlen
              have hx : (ws.map fun s => (⟨s.toArray⟩ : ByteArray)).map (·.data.toList) = ws := by
                rw [List.map_map]
                conv => rhs; rw [← List.map_id ws]
                exact List.map_congr_left (fun s _ => by simp)
              have := hc g (o + off) c (ws.map fun s => ⟨s.toArray⟩) ⟨sep.toArray⟩ w (fun j x hj => by
                rw [List.getElem?_map] at hj
                cases hq : ws[j]? with
                | none => rw [hq] at hj; cases hj
                | some s =>
                  rw [hq] at hj
                  simp only [Option.map_some, Option.some.injEq] at hj
                  subst hj
                  exact e3 j _ (by rw [List.getElem?_map, hq]; rfl)) (hR.inb _ _ g1) (by rw [List.length_map]; exact hb.1) (by rw [List.length_map]; exact g2) (by rw [hx]; exact hb.2)
              rw [hx, List.length_map] at this
              exact ext_later hR (.str _) this
        · cases h
      · cases h
  · cases h
end
end Go.Abs
end
section
/- The library's contracts, of the second evaluator. -/
namespace Go.Vw.Wm
open Go Go.RowKit Go.Abs Go.Vw Lx Tr
section
variable {P : Program} {K : Knobs} {ext : Nat → Option (List AV → AH → Option (AV × AH))}
/-- All that the first evaluator answers. -/
def XS (P : Program) (K : Knobs) (ext : Nat → Option (List AV → AH → Option (AV × AH))) : ExtV := fun fl f args σ v σ' => SimCall K (lim P ext) fl f args σ v σ'
theorem of_sim {fl f : Nat} {args : List V} {σ : St} {v : V} {σ' : St} (h : SimCall K (lim P ext) fl f args σ v σ') : Big P K (XS P K ext) (.call fl f args σ v σ') := .ext h

theorem pure_sim {f : Nat} {e : List AV → Option AV} (hx : ext f = some (pureExt e)) {fl : Nat} {args : List V} {σ : St} {v : V} (h : ∀ g avs, VAs g args avs → ∃ a, e avs = some a ∧ VA g v a) (hv : v.strip = v) : SimCall K (lim P ext) fl f args σ v σ := by
  intro g Pr H avs hS hva _
  obtain ⟨a, h1, h2⟩ := h g avs hva
  exact ⟨a, H, g, lim_ext hx (by simp [pureExt, h1]), Post.refl hS, h2, noown_strip1 hv⟩
theorem two_str {g : Gh} {s p : Str} {avs : List AV} (h : VAs g [.str s, .str p] avs) : avs = [.str s, .str p] := by
  cases h with
  | cons _ a _ _ h1 h2 =>
    cases h2 with
    | cons _ b _ _ h3 h4 => cases h4; cases h1; cases h3; rfl
theorem str_int {g : Gh} {s : Str} {k : IntKind} {n : Int} {avs : List AV} (h : VAs g [.str s, .int k n] avs) : avs = [.str s, .int k n] := by
  cases h with
  | cons _ a _ _ h1 h2 =>
    cases h2 with
    | cons _ b _ _ h3 h4 => cases h4; cases h1; cases h3; rfl
theorem ascii_of {s : Str} (h : ∀ c ∈ s, c < 128) : ascii s = true := List.all_eq_true.2 fun c hc => by
  have := h c hc
  simp only [decide_eq_true_eq]
  exact this
variable {f : Nat}
theorem X_IndexByte (hx : ext f = some (pureExt eIndexByte)) : S_IndexByte P K (XS P K ext) f := fun fl σ s c _ _ => of_sim (pure_sim hx (fun g avs h => by
  rw [str_int h]
  refine ⟨_, rfl, ?_⟩
  rw [lib_indexByte]
  have : (c.toNat : Int).toNat.toUInt8 = c := by simp
  rw [this]
  exact .int _ _) rfl)
theorem X_HasPrefix (hx : ext f = some (pureExt eHasPrefix)) : S_HasPrefix P K (XS P K ext) f := fun fl σ s p _ _ => of_sim (pure_sim hx (fun g avs h => by
  rw [two_str h]
  exact ⟨_, rfl, .bool _⟩) rfl)
theorem X_Index (hx : ext f = some (pureExt eIndex)) : S_Index P K (XS P K ext) f := fun fl σ s p _ hs => of_sim (pure_sim hx (fun g avs h => by
  rw [two_str h]
  refine ⟨_, by unfold eIndex; simp only; rw [if_pos hs], ?_⟩
  rw [lib_index]
  exact .int _ _) rfl)
theorem X_Contains (hx : ext f = some (pureExt eContains)) : S_Contains P K (XS P K ext) f := fun fl σ s p _ hs => of_sim (pure_sim hx (fun g avs h => by
  rw [two_str h]
  refine ⟨_, by unfold eContains; simp only; rw [if_pos hs], ?_⟩
  rw [lib_contains]
  exact .bool _) rfl)
theorem X_IndexAny (hx : ext f = some (pureExt eIndexAny)) : S_IndexAny P K (XS P K ext) f := fun fl σ s p _ hs h1 h2 h3 => of_sim (pure_sim hx (fun g avs h => by
  rw [two_str h]
  refine ⟨_, by unfold eIndexAny; simp only; rw [if_pos ⟨hs, by omega, ascii_of h1, ascii_of h2⟩], ?_⟩
  rw [lib_indexAny]
  exact .int _ _) rfl)
theorem X_ContainsAny (hx : ext f = some (pureExt eContainsAny)) : S_ContainsAny P K (XS P K ext) f := fun fl σ s p _ hs h1 h2 h3 => of_sim (pure_sim hx (fun g avs h => by
  rw [two_str h]
  refine ⟨_, by unfold eContainsAny; simp only; rw [if_pos ⟨hs, by omega, ascii_of h1, ascii_of h2⟩], ?_⟩
  rw [lib_containsAny]
  exact .bool _) rfl)
theorem X_Repeat (hx : ext f = some (pureExt eRepeat)) : S_Repeat P K (XS P K ext) f := fun fl σ s n _ hn hs => of_sim (pure_sim hx (fun g avs h => by
  rw [str_int h]
  refine ⟨_, by unfold eRepeat; simp only; rw [if_pos ⟨by omega, by omega, by simp only [Int.toNat_natCast]; omega⟩], ?_⟩
  rw [Int.toNat_natCast, lib_repeat]
  exact .str _) rfl)
theorem strsA_words {g : Gh} : ∀ (ws : List Str) (off : Nat) (vs : List AV), (∀ (i : Nat) (el : List V), (ws.map wordCell)[i]? = some el → VAs g el ((vs.drop (off + i * 1)).take 1)) → strsA ((vs.drop off).take ws.length) = some ws
  | [], off, vs, h => by rw [List.length_nil, List.take_zero]; rfl
  | w :: ws, off, vs, h => by
    have h0 := h 0 (wordCell w) rfl
    simp only [Nat.zero_mul, Nat.add_zero] at h0
    cases hd : vs.drop off with
    | nil => rw [hd] at h0; cases h0
    | cons x r =>
      rw [hd] at h0
      have ih := strsA_words ws (off + 1) vs (fun i el hi => by
        have := h (i + 1) el (by simpa using hi)
        rwa [show off + (i + 1) * 1 = off + 1 + i * 1 by omega] at this)
      have hr : vs.drop (off + 1) = r := by rw [← List.drop_drop, hd]; rfl
      rw [hr] at ih
      rw [List.length_cons, List.take_succ_cons]
      cases h0 with
      | cons _ _ _ _ h1 h2 =>
        cases h1
        simp only [strsA, ih, Option.map_some]
theorem join_len (sep : Str) : ∀ (ws : List Str), (sep.intercalate ws).length ≤ (ws.map fun w => w.length + sep.length).sum
  | [] => by simp [List.intercalate]
  | [w] => by simp [List.intercalate]
  | w :: v :: r => by
    have := join_len sep (v :: r)
    simp only [List.intercalate, List.intersperse, List.flatten_cons, List.length_append, List.map_cons, List.sum_cons] at this ⊢
    omega
theorem words_sum (sep : Str) (hs : sep ≠ []) (ws : List Str) : ws.length ≤ (ws.map fun w => w.length + sep.length).sum := by
  have : 1 ≤ sep.length := by cases sep with | nil => exact absurd rfl hs | cons a l => simp
  induction ws with
  | nil => simp
  | cons a ws ih => simp at ih ⊢; omega
theorem X_Join (hx : ext f = some eJoin) : S_Join P K (XS P K ext) f := by
  intro fl σ ws sep _ hn hl
  refine of_sim (fun g Pr H avs hS hva _ => ?_)
  have hjl := join_len sep ws
  have fin : ∀ a, avs = [a, .str sep] → eJoin [a, .str sep] H = some (.str (sep.intercalate ws), H) → ∃ a H' g', lim P ext f avs H = some (a, H') ∧ Post g g' Pr σ σ (if K.quiet f then max fl σ.size else fl) H H' ∧ VA g' (.str (sep.intercalate ws)) a ∧ OwnV g' H' Pr .val (.str (sep.intercalate ws)) a := by
    intro a ha he
    subst ha
    exact ⟨_, H, g, lim_ext hx he, Post.refl hS, .str _, noown_strip1 rfl⟩
  cases hva with
  | cons _ a _ _ h1 h2 =>
    cases h2 with
    | cons _ b _ _ h3 h4 =>
      cases h4; cases h3
      refine fin a rfl ?_
      generalize hel : ws.map wordCell = els at h1
      cases h1 with
      | nils =>
        have : ws = [] := by cases ws with | nil => rfl | cons _ _ => cases hel
        subst this
        rfl
      | vec _ _ b off cap esz vs k1 k2 k3 k4 k5 =>
        subst hel
        cases ws with
        | nil => rfl
        | cons w ws =>
          have hesz : esz = 1 := ((k4 0 (wordCell w) rfl).1).symm
          subst hesz
          obtain ⟨own, hg⟩ := hS.fro b vs k1
          have hst := strsA_words (g := g) (w :: ws) off vs k5
          unfold eJoin
          simp only [List.length_map, List.length_cons, Nat.succ_ne_zero, if_false, ne_eq, not_true_eq_false]
          have hrd : rd H b off (ws.length + 1) = some ((vs.drop off).take (ws.length + 1)) := by
            unfold rd
            rw [hg]
            simp only
            rw [if_pos (by simpa using k3)]
          simp only [List.length_cons] at hst hn
          rw [hrd]
          simp only [Option.bind_some, hst]
          rw [if_pos ⟨by simp only [List.length_cons]; omega, by unfold Lib.join; omega⟩]
          rfl
end
end Go.Vw.Wm
end
