/- The program's functions as abstract code: printed by wip/dev/gen2.lean, put together by wip/dev/mk1.py. -/
import Derived.Test.YtfhkjlokfijpiaaAi
import Derived.Test.YtfhkjlokfijpiaaProg
set_option linter.unusedSimpArgs false
set_option linter.unusedVariables false
set_option maxRecDepth 100000
namespace Go.Ab.S1
open Go

def f3_0 : List AI :=
  [
  ⟨(some 3), none, (.box (.t 1))⟩,
  ⟨(some 4), none, (.mv (.c (.lit (.bool false))))⟩]

def f3_1 : List AI :=
  [
  ⟨(some 43), none, (.mv (.t 0))⟩,
  ⟨(some 44), none, (.conv .i64 (.t 43))⟩,
  ⟨(some 45), none, (.bin .rem (.t 44) (.c (.lit (.int .i64 16))))⟩,
  ⟨(some 46), none, (.bin .add (.c (.lit (.int .i64 1))) (.t 45))⟩,
  ⟨(some 5), none, (.mv (.t 46))⟩]

def f3_2 : List AI :=
  [
  ⟨(some 48), none, (.mv (.t 5))⟩,
  ⟨(some 49), none, (.call (.c (.fn (.func 4) [] [])) [(.t 48)])⟩,
  ⟨(some 47), none, (.mv (.t 49))⟩,
  ⟨(some 50), none, (.ext (.t 47) 0)⟩,
  ⟨(some 51), none, (.ext (.t 47) 1)⟩,
  ⟨(some 6), none, (.mv (.t 50))⟩,
  ⟨(some 7), none, (.mv (.t 51))⟩]

def f3_3 : List AI :=
  [
  ⟨(some 53), none, (.mv (.t 5))⟩,
  ⟨(some 54), none, (.call (.c (.fn (.func 4) [] [])) [(.t 53)])⟩,
  ⟨(some 52), none, (.mv (.t 54))⟩,
  ⟨(some 55), none, (.ext (.t 52) 0)⟩,
  ⟨(some 56), none, (.ext (.t 52) 1)⟩,
  ⟨(some 8), none, (.mv (.t 55))⟩,
  ⟨(some 9), none, (.mv (.t 56))⟩]

def f3_4 : List AI :=
  [
  ⟨(some 57), none, (.mv (.t 7))⟩,
  ⟨(some 58), none, (.bin .neq (.t 57) (.c (.lit (.int .i64 0))))⟩,
  ⟨(some 59), none, (.mv (.t 58))⟩,
  ⟨(some 60), (some (59, false)), (.mv (.t 9))⟩,
  ⟨(some 61), (some (59, false)), (.bin .neq (.t 60) (.c (.lit (.int .i64 0))))⟩,
  ⟨(some 62), none, (.pick (.t 59) (.c (.lit (.bool true))) (.t 61))⟩]

def f3_5 : AC :=
  (.seq (.ops [
  ⟨(some 4), none, (.mv (.c (.lit (.bool false))))⟩])
  .ret)

def f3_6 : List DI :=
  [
  ⟨0, ⟨(some 63), none, (.mv (.t 5))⟩, [5], [], [], []⟩,
  ⟨1, ⟨(some 64), none, (.mkslice 1 8 [(.lit (.int .i64 0))] (.t 63) (.t 63))⟩, [63, 63], [0], [], []⟩,
  ⟨2, ⟨(some 65), none, (.mv (.t 5))⟩, [5], [], [], []⟩,
  ⟨3, ⟨(some 66), none, (.mkslice 1 8 [(.lit (.int .i64 0))] (.t 65) (.t 65))⟩, [65, 65], [2], [], []⟩,
  ⟨4, ⟨(some 67), none, (.mv (.t 5))⟩, [5], [], [], []⟩,
  ⟨5, ⟨(some 68), none, (.mkslice 1 8 [(.lit (.int .i64 0))] (.t 67) (.t 67))⟩, [67, 67], [4], [], []⟩,
  ⟨6, ⟨(some 69), none, (.mv (.t 5))⟩, [5], [], [], []⟩,
  ⟨7, ⟨(some 70), none, (.mkslice 1 8 [(.lit (.int .i64 0))] (.t 69) (.t 69))⟩, [69, 69], [6], [], []⟩,
  ⟨8, ⟨(some 11), none, (.mv (.t 64))⟩, [64], [0, 1], [], []⟩,
  ⟨9, ⟨(some 12), none, (.mv (.t 66))⟩, [66], [1, 0, 8, 2, 3], [], []⟩,
  ⟨10, ⟨(some 13), none, (.mv (.t 68))⟩, [68], [3, 2, 8, 0, 1, 9, 4, 5], [], []⟩,
  ⟨11, ⟨(some 14), none, (.mv (.t 70))⟩, [70], [5, 4, 9, 1, 0, 8, 2, 3, 10, 6, 7], [], []⟩]

def f3_7 : List AI :=
  [
  ⟨(some 71), none, (.mv (.t 11))⟩,
  ⟨(some 72), none, (.len 1 (.t 71))⟩,
  ⟨(some 73), none, (.mv (.c (.lit (.int .i64 0))))⟩]

def f3_8 : List AI :=
  [
  ⟨(some 75), none, (.mv (.t 73))⟩,
  ⟨(some 15), none, (.mv (.t 75))⟩]

def f3_9 : List DI :=
  [
  ⟨0, ⟨(some 76), none, (.mv (.t 11))⟩, [11], [], [], []⟩,
  ⟨1, ⟨(some 77), none, (.mv (.t 15))⟩, [15], [], [], []⟩,
  ⟨2, ⟨(some 78), none, (.mv (.t 14))⟩, [14], [], [], []⟩,
  ⟨3, ⟨(some 79), none, (.mv (.t 15))⟩, [15], [], [], []⟩,
  ⟨4, ⟨(some 80), none, (.mv (.t 10))⟩, [10], [], [], []⟩,
  ⟨5, ⟨(some 81), none, (.mv (.t 15))⟩, [15], [], [], []⟩,
  ⟨6, ⟨(some 82), none, (.iaddrA 16 3 (.t 3) (.t 81))⟩, [3, 81], [5], [], []⟩,
  ⟨7, ⟨(some 83), none, (.iaddrA 3 1 (.t 82) (.c (.lit (.int .i64 0))))⟩, [82], [5, 6], [], []⟩,
  ⟨8, ⟨(some 84), none, (.ld none (.t 83))⟩, [83], [6, 5, 7], [], []⟩,
  ⟨10, ⟨(some 86), none, (.mv (.t 15))⟩, [15], [], [], []⟩,
  ⟨11, ⟨(some 87), none, (.iaddrA 16 3 (.t 3) (.t 86))⟩, [3, 86], [9], [], []⟩,
  ⟨12, ⟨(some 88), none, (.iaddrA 3 1 (.t 87) (.c (.lit (.int .i64 2))))⟩, [87], [9, 10], [], []⟩,
  ⟨13, ⟨(some 89), none, (.ld none (.t 88))⟩, [88], [10, 9, 11], [], []⟩,
  ⟨14, ⟨(some 90), none, (.conv .i64 (.t 89))⟩, [89], [11, 9, 10, 12], [], []⟩,
  ⟨15, ⟨(some 91), none, (.bin .rem (.t 90) (.c (.lit (.int .i64 3))))⟩, [90], [12, 10, 9, 11, 13], [], []⟩,
  ⟨9, ⟨(some 85), none, (.call (.t 80) [(.t 84)])⟩, [80, 84], [7, 5, 6, 8, 4], [], [12]⟩,
  ⟨16, ⟨(some 92), none, (.iaddr 1 (.t 76) (.t 77))⟩, [76, 77], [15, 8, 7, 6, 5, 4, 1, 0], [], []⟩,
  ⟨17, ⟨none, none, (.st 1 (.t 92) (.t 85))⟩, [92, 85], [0, 1, 4, 5, 6, 7, 8, 15, 16], [], [12]⟩,
  ⟨18, ⟨(some 93), none, (.iaddr 1 (.t 78) (.t 79))⟩, [78, 79], [17, 16, 14, 13, 12, 11, 10, 9, 15, 8, 7, 6, 5, 4, 1, 0, 3, 2], [], []⟩,
  ⟨19, ⟨none, none, (.st 1 (.t 93) (.t 91))⟩, [93, 91], [2, 3, 0, 1, 4, 5, 6, 7, 8, 15, 9, 10, 11, 12, 13, 14, 16, 17, 18], [], []⟩]

def f3_10 : List AI :=
  [
  ⟨(some 94), none, (.mv (.t 12))⟩,
  ⟨(some 95), none, (.mv (.t 15))⟩,
  ⟨(some 96), none, (.iaddr 1 (.t 94) (.t 95))⟩,
  ⟨none, none, (.st 1 (.t 96) (.c (.lit (.int .i64 (-2)))))⟩]

def f3_11 : List AI :=
  [
  ⟨(some 97), none, (.mv (.t 10))⟩,
  ⟨(some 98), none, (.mv (.t 15))⟩,
  ⟨(some 99), none, (.iaddrA 16 3 (.t 3) (.t 98))⟩,
  ⟨(some 100), none, (.iaddrA 3 1 (.t 99) (.c (.lit (.int .i64 1))))⟩,
  ⟨(some 101), none, (.ld none (.t 100))⟩,
  ⟨(some 102), none, (.call (.t 97) [(.t 101)])⟩,
  ⟨(some 16), none, (.mv (.t 102))⟩]

def f3_12 : List AI :=
  [
  ⟨(some 103), none, (.mv (.t 11))⟩,
  ⟨(some 104), none, (.mv (.t 15))⟩,
  ⟨(some 105), none, (.iaddr 1 (.t 103) (.t 104))⟩,
  ⟨(some 106), none, (.ld none (.t 105))⟩,
  ⟨(some 107), none, (.bin .neq (.t 106) (.c (.lit (.int .i64 (-2)))))⟩,
  ⟨(some 108), none, (.mv (.t 107))⟩,
  ⟨(some 109), (some (108, true)), (.mv (.t 16))⟩,
  ⟨(some 110), (some (108, true)), (.bin .neq (.t 109) (.c (.lit (.int .i64 (-2)))))⟩,
  ⟨(some 111), none, (.pick (.t 108) (.t 110) (.c (.lit (.bool false))))⟩]

def f3_13 : List AI :=
  [
  ⟨(some 112), none, (.mv (.t 12))⟩,
  ⟨(some 113), none, (.mv (.t 15))⟩,
  ⟨(some 114), none, (.mv (.t 11))⟩,
  ⟨(some 115), none, (.mv (.t 15))⟩,
  ⟨(some 116), none, (.iaddr 1 (.t 114) (.t 115))⟩,
  ⟨(some 117), none, (.ld none (.t 116))⟩,
  ⟨(some 118), none, (.bin .mul (.c (.lit (.int .i64 4))) (.t 117))⟩,
  ⟨(some 119), none, (.mv (.t 16))⟩,
  ⟨(some 120), none, (.bin .add (.t 118) (.t 119))⟩,
  ⟨(some 121), none, (.iaddr 1 (.t 112) (.t 113))⟩,
  ⟨none, none, (.st 1 (.t 121) (.t 120))⟩]

def f3_14 : AC :=
  (.seq (.ops f3_8)
  (.seq (.draw f3_9)
  (.seq (.ops f3_10)
  (.seq (.ops f3_11)
  (.seq (.ops f3_12)
  (.cond (.t 111) (.ops f3_13) .skip))))))

def f3_15 : List AI :=
  [
  ⟨(some 122), none, (.bin .add (.t 73) (.c (.lit (.int .i64 1))))⟩,
  ⟨(some 73), none, (.mv (.t 122))⟩]

def f3_16 : AC :=
  (.seq (.ops [
  ⟨(some 74), none, (.bin .lss (.t 73) (.t 72))⟩])
  (.seq (.cond (.t 74) .skip (.exit 0))
  (.seq (.block 1 f3_14)
  (.ops f3_15))))

def f3_17 : AC :=
  (.loop [3, 5, 6, 8, 10, 11, 12, 13, 14, 72, 73] f3_16)

def f3_18 : List AI :=
  [
  ⟨(some 124), none, (.mv (.t 6))⟩,
  ⟨(some 125), none, (.mv (.t 11))⟩,
  ⟨(some 126), none, (.mv (.t 13))⟩,
  ⟨(some 127), none, (.call (.c (.fn (.func 6) [] [])) [(.t 124), (.c (.lit (.int .i64 0))), (.t 125), (.t 126)])⟩,
  ⟨(some 123), none, (.mv (.t 127))⟩,
  ⟨(some 128), none, (.ext (.t 123) 0)⟩,
  ⟨(some 129), none, (.ext (.t 123) 1)⟩,
  ⟨(some 17), none, (.mv (.t 128))⟩,
  ⟨(some 7), none, (.mv (.t 129))⟩]

def f3_19 : List AI :=
  [
  ⟨(some 131), none, (.mv (.t 8))⟩,
  ⟨(some 132), none, (.mv (.t 12))⟩,
  ⟨(some 133), none, (.mv (.t 14))⟩,
  ⟨(some 134), none, (.call (.c (.fn (.func 6) [] [])) [(.t 131), (.c (.lit (.int .i64 0))), (.t 132), (.t 133)])⟩,
  ⟨(some 130), none, (.mv (.t 134))⟩,
  ⟨(some 135), none, (.ext (.t 130) 0)⟩,
  ⟨(some 136), none, (.ext (.t 130) 1)⟩,
  ⟨(some 18), none, (.mv (.t 135))⟩,
  ⟨(some 9), none, (.mv (.t 136))⟩]

def f3_20 : List AI :=
  [
  ⟨(some 137), none, (.mv (.t 7))⟩,
  ⟨(some 138), none, (.bin .neq (.t 137) (.c (.lit (.int .i64 0))))⟩,
  ⟨(some 139), none, (.mv (.t 138))⟩,
  ⟨(some 140), (some (139, false)), (.mv (.t 9))⟩,
  ⟨(some 141), (some (139, false)), (.bin .neq (.t 140) (.c (.lit (.int .i64 0))))⟩,
  ⟨(some 142), none, (.pick (.t 139) (.c (.lit (.bool true))) (.t 141))⟩,
  ⟨(some 143), none, (.mv (.t 142))⟩,
  ⟨(some 144), (some (143, false)), (.mv (.t 17))⟩,
  ⟨(some 145), (some (143, false)), (.len 1 (.t 144))⟩,
  ⟨(some 146), (some (143, false)), (.mv (.t 5))⟩,
  ⟨(some 147), (some (143, false)), (.bin .neq (.t 145) (.t 146))⟩,
  ⟨(some 148), none, (.pick (.t 143) (.c (.lit (.bool true))) (.t 147))⟩,
  ⟨(some 149), none, (.mv (.t 148))⟩,
  ⟨(some 150), (some (149, false)), (.mv (.t 18))⟩,
  ⟨(some 151), (some (149, false)), (.len 1 (.t 150))⟩,
  ⟨(some 152), (some (149, false)), (.mv (.t 5))⟩,
  ⟨(some 153), (some (149, false)), (.bin .neq (.t 151) (.t 152))⟩,
  ⟨(some 154), none, (.pick (.t 149) (.c (.lit (.bool true))) (.t 153))⟩]

def f3_21 : AC :=
  (.seq (.ops [
  ⟨(some 4), none, (.mv (.c (.lit (.bool false))))⟩])
  .ret)

def f3_22 : List AI :=
  [
  ⟨(some 155), none, (.mv (.t 20))⟩,
  ⟨(some 156), none, (.bin .lss (.t 155) (.c (.lit (.int .i64 4))))⟩]

def f3_23 : List AI :=
  [
  ⟨(some 159), none, (.rowlit 0 1 [] [])⟩,
  ⟨(some 21), none, (.mv (.t 159))⟩]

def f3_24 : List AI :=
  [
  ⟨(some 160), none, (.mv (.t 11))⟩,
  ⟨(some 161), none, (.len 1 (.t 160))⟩,
  ⟨(some 162), none, (.mv (.c (.lit (.int .i64 0))))⟩]

def f3_25 : List AI :=
  [
  ⟨(some 164), none, (.mv (.t 162))⟩,
  ⟨(some 23), none, (.mv (.t 164))⟩]

def f3_26 : List AI :=
  [
  ⟨(some 165), none, (.mv (.t 11))⟩,
  ⟨(some 166), none, (.mv (.t 23))⟩,
  ⟨(some 167), none, (.iaddr 1 (.t 165) (.t 166))⟩,
  ⟨(some 168), none, (.ld none (.t 167))⟩,
  ⟨(some 169), none, (.mv (.t 20))⟩,
  ⟨(some 170), none, (.bin .eql (.t 168) (.t 169))⟩]

def f3_27 : List DI :=
  [
  ⟨0, ⟨(some 171), none, (.mv (.t 21))⟩, [21], [], [], []⟩,
  ⟨1, ⟨(some 172), none, (.mv (.t 23))⟩, [23], [], [], []⟩,
  ⟨2, ⟨(some 173), none, (.rowlit 1 1 [(.lit (.int .i64 0))] [(0, (1, (.t 172)))])⟩, [172], [1], [], []⟩,
  ⟨4, ⟨(some 175), none, (.mv (.t 17))⟩, [17], [], [], []⟩,
  ⟨5, ⟨(some 176), none, (.mv (.t 23))⟩, [23], [], [], []⟩,
  ⟨6, ⟨(some 177), none, (.iaddr 1 (.t 175) (.t 176))⟩, [175, 176], [4, 3], [], []⟩,
  ⟨7, ⟨(some 178), none, (.ld none (.t 177))⟩, [177], [3, 4, 5], [2], []⟩,
  ⟨3, ⟨(some 174), none, (.app false 1 8 (.t 171) (.t 173))⟩, [171, 173], [1, 2, 0], [], [6]⟩,
  ⟨8, ⟨(some 21), none, (.mv (.t 174))⟩, [174], [0, 2, 1, 7], [], []⟩,
  ⟨9, ⟨(some 22), none, (.mv (.t 178))⟩, [178], [7, 1, 2, 0, 8, 5, 4, 3, 6], [], []⟩]

def f3_28 : AC :=
  (.seq (.ops f3_25)
  (.seq (.ops f3_26)
  (.cond (.t 170) (.draw f3_27) .skip)))

def f3_29 : List AI :=
  [
  ⟨(some 179), none, (.bin .add (.t 162) (.c (.lit (.int .i64 1))))⟩,
  ⟨(some 162), none, (.mv (.t 179))⟩]

def f3_30 : AC :=
  (.seq (.ops [
  ⟨(some 163), none, (.bin .lss (.t 162) (.t 161))⟩])
  (.seq (.cond (.t 163) .skip (.exit 4))
  (.seq (.block 5 f3_28)
  (.ops f3_29))))

def f3_31 : AC :=
  (.loop [3, 5, 6, 8, 10, 11, 14, 17, 18, 19, 20, 21, 22, 161, 162] f3_30)

def f3_32 : List AI :=
  [
  ⟨(some 180), none, (.mv (.t 21))⟩,
  ⟨(some 181), none, (.len 1 (.t 180))⟩,
  ⟨(some 182), none, (.bin .eql (.t 181) (.c (.lit (.int .i64 0))))⟩]

def f3_33 : List AI :=
  [
  ⟨(some 184), none, (.mv (.t 6))⟩,
  ⟨(some 185), none, (.mv (.t 22))⟩,
  ⟨(some 186), none, (.call (.c (.fn (.func 7) [] [])) [(.t 184), (.t 185)])⟩,
  ⟨(some 183), none, (.mv (.t 186))⟩,
  ⟨(some 187), none, (.ext (.t 183) 0)⟩,
  ⟨(some 188), none, (.ext (.t 183) 1)⟩,
  ⟨(some 24), none, (.mv (.t 187))⟩,
  ⟨(some 25), none, (.mv (.t 188))⟩]

def f3_34 : List AI :=
  [
  ⟨(some 189), none, (.mv (.t 25))⟩,
  ⟨(some 190), none, (.bin .neq (.t 189) (.c (.lit (.int .i64 0))))⟩,
  ⟨(some 191), none, (.mv (.t 190))⟩,
  ⟨(some 192), (some (191, false)), (.mv (.t 24))⟩,
  ⟨(some 193), (some (191, false)), (.mv (.t 21))⟩,
  ⟨(some 194), (some (191, false)), (.call (.c (.fn (.func 8) [] [])) [(.t 192), (.t 193)])⟩,
  ⟨(some 195), (some (191, false)), (.un .not (.t 194))⟩,
  ⟨(some 196), none, (.pick (.t 191) (.c (.lit (.bool true))) (.t 195))⟩]

def f3_35 : AC :=
  (.seq (.ops [
  ⟨(some 4), none, (.mv (.c (.lit (.bool false))))⟩])
  .ret)

def f3_36 : List AI :=
  [
  ⟨(some 197), none, (.mv (.t 19))⟩,
  ⟨(some 198), none, (.bin .add (.t 197) (.c (.lit (.int .i64 1))))⟩,
  ⟨(some 19), none, (.mv (.t 198))⟩]

def f3_37 : List AI :=
  [
  ⟨(some 199), none, (.rowlit 0 1 [] [])⟩,
  ⟨(some 200), none, (.rowlit 0 1 [] [])⟩,
  ⟨(some 26), none, (.mv (.t 199))⟩,
  ⟨(some 27), none, (.mv (.t 200))⟩]

def f3_38 : List AI :=
  [
  ⟨(some 201), none, (.mv (.t 21))⟩,
  ⟨(some 202), none, (.len 1 (.t 201))⟩,
  ⟨(some 203), none, (.mv (.c (.lit (.int .i64 0))))⟩]

def f3_39 : List AI :=
  [
  ⟨(some 205), none, (.iaddr 1 (.t 201) (.t 203))⟩,
  ⟨(some 206), none, (.ld none (.t 205))⟩,
  ⟨(some 29), none, (.mv (.t 206))⟩]

def f3_40 : List DI :=
  [
  ⟨0, ⟨(some 207), none, (.mv (.t 26))⟩, [26], [], [], []⟩,
  ⟨1, ⟨(some 208), none, (.mv (.t 10))⟩, [10], [], [], []⟩,
  ⟨2, ⟨(some 209), none, (.mv (.t 29))⟩, [29], [], [], []⟩,
  ⟨3, ⟨(some 210), none, (.iaddrA 16 3 (.t 3) (.t 209))⟩, [3, 209], [2], [], []⟩,
  ⟨4, ⟨(some 211), none, (.iaddrA 3 1 (.t 210) (.c (.lit (.int .i64 1))))⟩, [210], [2, 3], [], []⟩,
  ⟨5, ⟨(some 212), none, (.ld none (.t 211))⟩, [211], [3, 2, 4], [11, 13], []⟩,
  ⟨9, ⟨(some 216), none, (.mv (.t 27))⟩, [27], [], [], []⟩,
  ⟨10, ⟨(some 217), none, (.mv (.t 14))⟩, [14], [], [], []⟩,
  ⟨11, ⟨(some 218), none, (.mv (.t 29))⟩, [29], [], [], []⟩,
  ⟨12, ⟨(some 219), none, (.iaddr 1 (.t 217) (.t 218))⟩, [217, 218], [8, 7], [], []⟩,
  ⟨13, ⟨(some 220), none, (.ld none (.t 219))⟩, [219], [7, 8, 9], [11, 13], []⟩,
  ⟨14, ⟨(some 221), none, (.rowlit 1 1 [(.lit (.int .i64 0))] [(0, (1, (.t 220)))])⟩, [220], [9, 8, 7, 10], [], []⟩,
  ⟨6, ⟨(some 213), none, (.call (.t 208) [(.t 212)])⟩, [208, 212], [4, 2, 3, 5, 1], [11], [10]⟩,
  ⟨7, ⟨(some 214), none, (.rowlit 1 1 [(.lit (.int .i64 0))] [(0, (1, (.t 213)))])⟩, [213], [1, 5, 3, 2, 4, 12], [], []⟩,
  ⟨8, ⟨(some 215), none, (.app false 1 8 (.t 207) (.t 214))⟩, [207, 214], [12, 4, 2, 3, 5, 1, 13, 0], [11], [10]⟩,
  ⟨15, ⟨(some 222), none, (.app false 1 8 (.t 216) (.t 221))⟩, [216, 221], [0, 13, 1, 5, 3, 2, 4, 12, 14, 10, 7, 8, 9, 11, 6], [], []⟩,
  ⟨16, ⟨(some 26), none, (.mv (.t 215))⟩, [215], [6, 11, 9, 8, 7, 10, 15, 0, 13, 1, 5, 3, 2, 4, 12, 14], [], []⟩,
  ⟨17, ⟨(some 27), none, (.mv (.t 222))⟩, [222], [16, 6, 11, 9, 8, 7, 10, 14, 12, 4, 2, 3, 5, 1, 13, 0, 15], [], []⟩]

def f3_41 : AC :=
  (.seq (.ops f3_39)
  (.draw f3_40))

def f3_42 : List AI :=
  [
  ⟨(some 223), none, (.bin .add (.t 203) (.c (.lit (.int .i64 1))))⟩,
  ⟨(some 203), none, (.mv (.t 223))⟩]

def f3_43 : AC :=
  (.seq (.ops [
  ⟨(some 204), none, (.bin .lss (.t 203) (.t 202))⟩])
  (.seq (.cond (.t 204) .skip (.exit 6))
  (.seq (.block 7 f3_41)
  (.ops f3_42))))

def f3_44 : AC :=
  (.loop [3, 5, 6, 8, 10, 11, 14, 17, 18, 19, 20, 21, 22, 26, 27, 201, 202, 203] f3_43)

def f3_45 : List AI :=
  [
  ⟨(some 225), none, (.mv (.t 6))⟩,
  ⟨(some 226), none, (.mv (.t 22))⟩,
  ⟨(some 227), none, (.mv (.t 26))⟩,
  ⟨(some 228), none, (.mv (.t 27))⟩,
  ⟨(some 229), none, (.call (.c (.fn (.func 6) [] [])) [(.t 225), (.t 226), (.t 227), (.t 228)])⟩,
  ⟨(some 224), none, (.mv (.t 229))⟩,
  ⟨(some 230), none, (.ext (.t 224) 0)⟩,
  ⟨(some 231), none, (.ext (.t 224) 1)⟩,
  ⟨(some 30), none, (.mv (.t 230))⟩,
  ⟨(some 25), none, (.mv (.t 231))⟩]

def f3_46 : List AI :=
  [
  ⟨(some 232), none, (.mv (.t 25))⟩,
  ⟨(some 233), none, (.bin .neq (.t 232) (.c (.lit (.int .i64 0))))⟩,
  ⟨(some 234), none, (.mv (.t 233))⟩,
  ⟨(some 235), (some (234, false)), (.mv (.t 30))⟩,
  ⟨(some 236), (some (234, false)), (.len 1 (.t 235))⟩,
  ⟨(some 237), (some (234, false)), (.mv (.t 21))⟩,
  ⟨(some 238), (some (234, false)), (.len 1 (.t 237))⟩,
  ⟨(some 239), (some (234, false)), (.bin .neq (.t 236) (.t 238))⟩,
  ⟨(some 240), none, (.pick (.t 234) (.c (.lit (.bool true))) (.t 239))⟩]

def f3_47 : AC :=
  (.seq (.ops [
  ⟨(some 4), none, (.mv (.c (.lit (.bool false))))⟩])
  .ret)

def f3_48 : List AI :=
  [
  ⟨(some 241), none, (.mv (.t 21))⟩,
  ⟨(some 242), none, (.len 1 (.t 241))⟩,
  ⟨(some 243), none, (.mv (.c (.lit (.int .i64 0))))⟩]

def f3_49 : List AI :=
  [
  ⟨(some 245), none, (.mv (.t 243))⟩,
  ⟨(some 246), none, (.iaddr 1 (.t 241) (.t 243))⟩,
  ⟨(some 247), none, (.ld none (.t 246))⟩,
  ⟨(some 31), none, (.mv (.t 245))⟩,
  ⟨(some 32), none, (.mv (.t 247))⟩]

def f3_50 : List DI :=
  [
  ⟨0, ⟨(some 248), none, (.mv (.t 30))⟩, [30], [], [], []⟩,
  ⟨1, ⟨(some 249), none, (.mv (.t 31))⟩, [31], [], [], []⟩,
  ⟨2, ⟨(some 250), none, (.iaddr 1 (.t 248) (.t 249))⟩, [248, 249], [1, 0], [], []⟩,
  ⟨3, ⟨(some 251), none, (.ld none (.t 250))⟩, [250], [0, 1, 2], [], []⟩,
  ⟨4, ⟨(some 252), none, (.bin .eql (.t 251) (.c (.lit (.int .i64 (-2)))))⟩, [251], [2, 1, 0, 3], [], []⟩,
  ⟨5, ⟨(some 253), none, (.mv (.t 18))⟩, [18], [], [], []⟩,
  ⟨6, ⟨(some 254), none, (.mv (.t 32))⟩, [32], [], [], []⟩,
  ⟨7, ⟨(some 255), none, (.iaddr 1 (.t 253) (.t 254))⟩, [253, 254], [6, 5], [], []⟩,
  ⟨8, ⟨(some 256), none, (.ld none (.t 255))⟩, [255], [5, 6, 7], [], []⟩,
  ⟨9, ⟨(some 257), none, (.bin .eql (.t 256) (.c (.lit (.int .i64 (-2)))))⟩, [256], [7, 6, 5, 8], [], []⟩,
  ⟨10, ⟨(some 258), none, (.eqb .neq (.t 252) (.t 257))⟩, [252, 257], [8, 5, 6, 7, 9, 3, 0, 1, 2, 4], [], []⟩]

def f3_51 : AC :=
  (.seq (.ops [
  ⟨(some 4), none, (.mv (.c (.lit (.bool false))))⟩])
  .ret)

def f3_52 : List AI :=
  [
  ⟨(some 259), none, (.mv (.t 30))⟩,
  ⟨(some 260), none, (.mv (.t 31))⟩,
  ⟨(some 261), none, (.iaddr 1 (.t 259) (.t 260))⟩,
  ⟨(some 262), none, (.ld none (.t 261))⟩,
  ⟨(some 263), none, (.bin .eql (.t 262) (.c (.lit (.int .i64 (-2)))))⟩]

def f3_53 : List AI :=
  [
  ⟨(some 265), none, (.mv (.t 6))⟩,
  ⟨(some 266), none, (.mv (.t 30))⟩,
  ⟨(some 267), none, (.mv (.t 31))⟩,
  ⟨(some 268), none, (.iaddr 1 (.t 266) (.t 267))⟩,
  ⟨(some 269), none, (.ld none (.t 268))⟩,
  ⟨(some 270), none, (.call (.c (.fn (.func 7) [] [])) [(.t 265), (.t 269)])⟩,
  ⟨(some 264), none, (.mv (.t 270))⟩,
  ⟨(some 271), none, (.ext (.t 264) 0)⟩,
  ⟨(some 272), none, (.ext (.t 264) 1)⟩,
  ⟨(some 33), none, (.mv (.t 271))⟩,
  ⟨(some 34), none, (.mv (.t 272))⟩]

def f3_54 : List AI :=
  [
  ⟨(some 274), none, (.mv (.t 8))⟩,
  ⟨(some 275), none, (.mv (.t 18))⟩,
  ⟨(some 276), none, (.mv (.t 32))⟩,
  ⟨(some 277), none, (.iaddr 1 (.t 275) (.t 276))⟩,
  ⟨(some 278), none, (.ld none (.t 277))⟩,
  ⟨(some 279), none, (.call (.c (.fn (.func 7) [] [])) [(.t 274), (.t 278)])⟩,
  ⟨(some 273), none, (.mv (.t 279))⟩,
  ⟨(some 280), none, (.ext (.t 273) 0)⟩,
  ⟨(some 281), none, (.ext (.t 273) 1)⟩,
  ⟨(some 35), none, (.mv (.t 280))⟩,
  ⟨(some 36), none, (.mv (.t 281))⟩]

def f3_55 : List AI :=
  [
  ⟨(some 283), none, (.mv (.t 21))⟩,
  ⟨(some 284), none, (.mv (.t 31))⟩,
  ⟨(some 285), none, (.rowlit 1 1 [(.lit (.int .i64 0))] [(0, (1, (.t 284)))])⟩,
  ⟨(some 286), none, (.mv (.t 33))⟩,
  ⟨(some 287), none, (.call (.c (.fn (.func 9) [] [])) [(.t 283), (.t 285), (.t 286)])⟩,
  ⟨(some 282), none, (.mv (.t 287))⟩,
  ⟨(some 288), none, (.ext (.t 282) 0)⟩,
  ⟨(some 289), none, (.ext (.t 282) 1)⟩,
  ⟨(some 37), none, (.mv (.t 288))⟩,
  ⟨(some 38), none, (.mv (.t 289))⟩]

def f3_56 : List AI :=
  [
  ⟨(some 290), none, (.mv (.t 34))⟩,
  ⟨(some 291), none, (.bin .neq (.t 290) (.c (.lit (.int .i64 0))))⟩,
  ⟨(some 292), none, (.mv (.t 291))⟩,
  ⟨(some 293), (some (292, false)), (.mv (.t 36))⟩,
  ⟨(some 294), (some (292, false)), (.bin .neq (.t 293) (.c (.lit (.int .i64 0))))⟩,
  ⟨(some 295), none, (.pick (.t 292) (.c (.lit (.bool true))) (.t 294))⟩,
  ⟨(some 296), none, (.mv (.t 295))⟩,
  ⟨(some 297), (some (296, false)), (.mv (.t 38))⟩,
  ⟨(some 298), (some (296, false)), (.bin .neq (.t 297) (.c (.lit (.int .i64 0))))⟩,
  ⟨(some 299), none, (.pick (.t 296) (.c (.lit (.bool true))) (.t 298))⟩,
  ⟨(some 300), none, (.mv (.t 299))⟩,
  ⟨(some 301), (some (300, false)), (.mv (.t 33))⟩,
  ⟨(some 302), (some (300, false)), (.mv (.t 35))⟩,
  ⟨(some 303), (some (300, false)), (.call (.c (.fn (.func 8) [] [])) [(.t 301), (.t 302)])⟩,
  ⟨(some 304), (some (300, false)), (.un .not (.t 303))⟩,
  ⟨(some 305), none, (.pick (.t 300) (.c (.lit (.bool true))) (.t 304))⟩,
  ⟨(some 306), none, (.mv (.t 305))⟩,
  ⟨(some 307), (some (306, false)), (.mv (.t 37))⟩,
  ⟨(some 308), (some (306, false)), (.len 1 (.t 307))⟩,
  ⟨(some 309), (some (306, false)), (.bin .neq (.t 308) (.c (.lit (.int .i64 1))))⟩,
  ⟨(some 310), none, (.pick (.t 306) (.c (.lit (.bool true))) (.t 309))⟩,
  ⟨(some 311), none, (.mv (.t 310))⟩,
  ⟨(some 312), (some (311, false)), (.mv (.t 37))⟩,
  ⟨(some 313), (some (311, false)), (.iaddr 1 (.t 312) (.c (.lit (.int .i64 0))))⟩,
  ⟨(some 314), (some (311, false)), (.ld none (.t 313))⟩,
  ⟨(some 315), (some (311, false)), (.bin .lss (.t 314) (.c (.lit (.int .i64 0))))⟩,
  ⟨(some 316), none, (.pick (.t 311) (.c (.lit (.bool true))) (.t 315))⟩,
  ⟨(some 317), none, (.mv (.t 316))⟩,
  ⟨(some 318), (some (317, false)), (.mv (.t 37))⟩,
  ⟨(some 319), (some (317, false)), (.iaddr 1 (.t 318) (.c (.lit (.int .i64 0))))⟩,
  ⟨(some 320), (some (317, false)), (.ld none (.t 319))⟩,
  ⟨(some 321), (some (317, false)), (.mv (.t 33))⟩,
  ⟨(some 322), (some (317, false)), (.len 1 (.t 321))⟩,
  ⟨(some 323), (some (317, false)), (.bin .geq (.t 320) (.t 322))⟩,
  ⟨(some 324), none, (.pick (.t 317) (.c (.lit (.bool true))) (.t 323))⟩,
  ⟨(some 325), none, (.mv (.t 324))⟩,
  ⟨(some 326), (some (325, false)), (.mv (.t 33))⟩,
  ⟨(some 327), (some (325, false)), (.mv (.t 37))⟩,
  ⟨(some 328), (some (325, false)), (.iaddr 1 (.t 327) (.c (.lit (.int .i64 0))))⟩,
  ⟨(some 329), (some (325, false)), (.ld none (.t 328))⟩,
  ⟨(some 330), (some (325, false)), (.iaddr 1 (.t 326) (.t 329))⟩,
  ⟨(some 331), (some (325, false)), (.ld none (.t 330))⟩,
  ⟨(some 332), (some (325, false)), (.mv (.t 32))⟩,
  ⟨(some 333), (some (325, false)), (.bin .neq (.t 331) (.t 332))⟩,
  ⟨(some 334), none, (.pick (.t 325) (.c (.lit (.bool true))) (.t 333))⟩]

def f3_57 : AC :=
  (.seq (.ops [
  ⟨(some 4), none, (.mv (.c (.lit (.bool false))))⟩])
  .ret)

def f3_58 : AC :=
  (.seq (.ops f3_49)
  (.seq (.seq (.draw f3_50)
  (.cond (.t 258) f3_51 .skip))
  (.seq (.seq (.ops f3_52)
  (.cond (.t 263) (.exit 9) .skip))
  (.seq (.ops f3_53)
  (.seq (.ops f3_54)
  (.seq (.ops f3_55)
  (.seq (.ops f3_56)
  (.cond (.t 334) f3_57 .skip))))))))

def f3_59 : List AI :=
  [
  ⟨(some 335), none, (.bin .add (.t 243) (.c (.lit (.int .i64 1))))⟩,
  ⟨(some 243), none, (.mv (.t 335))⟩]

def f3_60 : AC :=
  (.seq (.ops [
  ⟨(some 244), none, (.bin .lss (.t 243) (.t 242))⟩])
  (.seq (.cond (.t 244) .skip (.exit 8))
  (.seq (.block 9 f3_58)
  (.ops f3_59))))

def f3_61 : AC :=
  (.loop [3, 5, 6, 8, 10, 11, 14, 17, 18, 19, 20, 21, 30, 241, 242, 243] f3_60)

def f3_62 : AC :=
  (.seq (.ops f3_23)
  (.seq (.ops [
  ⟨(some 22), none, (.mv (.c (.lit (.int .i64 (-2)))))⟩])
  (.seq (.seq (.ops f3_24)
  (.block 4 f3_31))
  (.seq (.seq (.ops f3_32)
  (.cond (.t 182) (.exit 3) .skip))
  (.seq (.ops f3_33)
  (.seq (.seq (.ops f3_34)
  (.cond (.t 196) f3_35 .skip))
  (.seq (.ops f3_36)
  (.seq (.ops f3_37)
  (.seq (.seq (.ops f3_38)
  (.block 6 f3_44))
  (.seq (.ops f3_45)
  (.seq (.seq (.ops f3_46)
  (.cond (.t 240) f3_47 .skip))
  (.seq (.ops f3_48)
  (.block 8 f3_61)))))))))))))

def f3_63 : List AI :=
  [
  ⟨(some 157), none, (.mv (.t 20))⟩,
  ⟨(some 158), none, (.bin .add (.t 157) (.c (.lit (.int .i64 1))))⟩,
  ⟨(some 20), none, (.mv (.t 158))⟩]

def f3_64 : AC :=
  (.seq (.seq (.ops f3_22)
  (.cond (.t 156) .skip (.exit 2)))
  (.seq (.block 3 f3_62)
  (.ops f3_63)))

def f3_65 : AC :=
  (.loop [3, 5, 6, 8, 10, 11, 14, 17, 18, 19, 20] f3_64)

def f3_66 : List AI :=
  [
  ⟨(some 337), none, (.mv (.t 6))⟩,
  ⟨(some 338), none, (.call (.c (.fn (.func 7) [] [])) [(.t 337), (.c (.lit (.int .i64 0)))])⟩,
  ⟨(some 336), none, (.mv (.t 338))⟩,
  ⟨(some 339), none, (.ext (.t 336) 0)⟩,
  ⟨(some 340), none, (.ext (.t 336) 1)⟩,
  ⟨(some 39), none, (.mv (.t 339))⟩,
  ⟨(some 7), none, (.mv (.t 340))⟩]

def f3_67 : List AI :=
  [
  ⟨(some 341), none, (.mv (.t 6))⟩,
  ⟨(some 342), none, (.call (.c (.fn (.func 10) [] [])) [(.t 341)])⟩,
  ⟨(some 343), none, (.len 1 (.t 342))⟩,
  ⟨(some 344), none, (.mv (.c (.lit (.int .i64 0))))⟩]

def f3_68 : List AI :=
  [
  ⟨(some 346), none, (.iaddr 1 (.t 342) (.t 344))⟩,
  ⟨(some 347), none, (.ld none (.t 346))⟩,
  ⟨(some 41), none, (.mv (.t 347))⟩]

def f3_69 : List AI :=
  [
  ⟨(some 348), none, (.mv (.t 41))⟩,
  ⟨(some 349), none, (.bin .neq (.t 348) (.c (.lit (.int .i64 0))))⟩,
  ⟨(some 350), none, (.mv (.t 349))⟩,
  ⟨(some 351), (some (350, true)), (.mv (.t 6))⟩,
  ⟨(some 352), (some (350, true)), (.mv (.t 41))⟩,
  ⟨(some 353), (some (350, true)), (.call (.c (.fn (.func 11) [] [])) [(.t 351), (.t 352)])⟩,
  ⟨(some 354), (some (350, true)), (.bin .neq (.t 353) (.c (.lit (.int .i64 0))))⟩,
  ⟨(some 355), none, (.pick (.t 350) (.t 354) (.c (.lit (.bool false))))⟩]

def f3_70 : AC :=
  (.seq (.ops [
  ⟨(some 4), none, (.mv (.c (.lit (.bool false))))⟩])
  .ret)

def f3_71 : AC :=
  (.seq (.ops f3_68)
  (.seq (.ops f3_69)
  (.cond (.t 355) f3_70 .skip)))

def f3_72 : List AI :=
  [
  ⟨(some 356), none, (.bin .add (.t 344) (.c (.lit (.int .i64 1))))⟩,
  ⟨(some 344), none, (.mv (.t 356))⟩]

def f3_73 : AC :=
  (.seq (.ops [
  ⟨(some 345), none, (.bin .lss (.t 344) (.t 343))⟩])
  (.seq (.cond (.t 345) .skip (.exit 10))
  (.seq (.block 11 f3_71)
  (.ops f3_72))))

def f3_74 : AC :=
  (.loop [5, 6, 7, 19, 39, 342, 343, 344] f3_73)

def f3_75 : List AI :=
  [
  ⟨(some 358), none, (.mv (.t 6))⟩,
  ⟨(some 359), none, (.call (.c (.fn (.func 12) [] [])) [(.t 358), (.c (.lit (.int .i64 0)))])⟩,
  ⟨(some 357), none, (.mv (.t 359))⟩,
  ⟨(some 360), none, (.ext (.t 357) 0)⟩,
  ⟨(some 361), none, (.ext (.t 357) 1)⟩,
  ⟨(some 42), none, (.mv (.t 360))⟩,
  ⟨(some 9), none, (.mv (.t 361))⟩]

def f3_76 : List AI :=
  [
  ⟨(some 362), none, (.mv (.t 7))⟩,
  ⟨(some 363), none, (.bin .eql (.t 362) (.c (.lit (.int .i64 0))))⟩,
  ⟨(some 364), none, (.mv (.t 363))⟩,
  ⟨(some 365), (some (364, true)), (.mv (.t 9))⟩,
  ⟨(some 366), (some (364, true)), (.bin .eql (.t 365) (.c (.lit (.int .i64 0))))⟩,
  ⟨(some 367), none, (.pick (.t 364) (.t 366) (.c (.lit (.bool false))))⟩,
  ⟨(some 368), none, (.mv (.t 367))⟩,
  ⟨(some 369), (some (368, true)), (.mv (.t 39))⟩,
  ⟨(some 370), (some (368, true)), (.len 1 (.t 369))⟩,
  ⟨(some 371), (some (368, true)), (.mv (.t 5))⟩,
  ⟨(some 372), (some (368, true)), (.bin .eql (.t 370) (.t 371))⟩,
  ⟨(some 373), none, (.pick (.t 368) (.t 372) (.c (.lit (.bool false))))⟩,
  ⟨(some 374), none, (.mv (.t 373))⟩,
  ⟨(some 375), (some (374, true)), (.mv (.t 42))⟩,
  ⟨(some 376), (some (374, true)), (.bin .eql (.t 375) (.c (.lit (.int .i64 1))))⟩,
  ⟨(some 377), none, (.pick (.t 374) (.t 376) (.c (.lit (.bool false))))⟩,
  ⟨(some 378), none, (.mv (.t 377))⟩,
  ⟨(some 379), (some (378, true)), (.mv (.t 19))⟩,
  ⟨(some 380), (some (378, true)), (.bin .leq (.t 379) (.c (.lit (.int .i64 4))))⟩,
  ⟨(some 381), none, (.pick (.t 378) (.t 380) (.c (.lit (.bool false))))⟩,
  ⟨(some 382), none, (.mv (.t 381))⟩,
  ⟨(some 383), (some (382, true)), (.mv (.t 6))⟩,
  ⟨(some 384), (some (382, true)), (.call (.c (.fn (.func 10) [] [])) [(.t 383)])⟩,
  ⟨(some 385), (some (382, true)), (.rowlit 2 1 [(.lit (.int .i64 0)), (.lit (.int .i64 0))] [(0, (1, (.c (.lit (.int .i64 0))))), (1, (1, (.c (.lit (.int .i64 1)))))])⟩,
  ⟨(some 386), (some (382, true)), (.call (.c (.fn (.func 8) [] [])) [(.t 384), (.t 385)])⟩,
  ⟨(some 387), none, (.pick (.t 382) (.t 386) (.c (.lit (.bool false))))⟩,
  ⟨(some 388), none, (.mv (.t 387))⟩,
  ⟨(some 389), (some (388, true)), (.call (.c (.fn (.func 13) [] [])) [])⟩,
  ⟨(some 390), none, (.pick (.t 388) (.t 389) (.c (.lit (.bool false))))⟩,
  ⟨(some 4), none, (.mv (.t 390))⟩]

def f3 : AFn := ⟨2, 391, [(.tmp 4)],
  (.seq (.ops f3_0)
  (.seq (.ops f3_1)
  (.seq (.ops f3_2)
  (.seq (.ops f3_3)
  (.seq (.seq (.ops f3_4)
  (.cond (.t 62) f3_5 .skip))
  (.seq (.ops [
  ⟨(some 10), none, (.mv (.c (.fn (.func 5) [] [])))⟩])
  (.seq (.draw f3_6)
  (.seq (.seq (.ops f3_7)
  (.block 0 f3_17))
  (.seq (.ops f3_18)
  (.seq (.ops f3_19)
  (.seq (.seq (.ops f3_20)
  (.cond (.t 154) f3_21 .skip))
  (.seq (.ops [
  ⟨(some 19), none, (.mv (.c (.lit (.int .i64 0))))⟩])
  (.seq (.seq (.ops [
  ⟨(some 20), none, (.mv (.c (.lit (.int .i64 0))))⟩])
  (.block 2 f3_65))
  (.seq (.ops f3_66)
  (.seq (.seq (.ops f3_67)
  (.block 10 f3_74))
  (.seq (.ops f3_75)
  (.seq (.ops f3_76)
  .ret)))))))))))))))))⟩

theorem f3_tr : trFn Go.Proofs.Try.prog 3 [[3, 5, 6, 8, 10, 11, 12, 13, 14, 72, 73], [3, 5, 6, 8, 10, 11, 14, 17, 18, 19, 20], [3, 5, 6, 8, 10, 11, 14, 17, 18, 19, 20, 21, 22, 161, 162], [3, 5, 6, 8, 10, 11, 14, 17, 18, 19, 20, 21, 22, 26, 27, 201, 202, 203], [3, 5, 6, 8, 10, 11, 14, 17, 18, 19, 20, 21, 30, 241, 242, 243], [5, 6, 7, 19, 39, 342, 343, 344]] = some f3 := by kernel_rfl

def f4_0 : List AI :=
  [
  ⟨(some 2), none, (.mv (.c (.lit .nilp)))⟩,
  ⟨(some 3), none, (.mv (.c (.lit (.int .i64 0))))⟩]

def f4_1 : List AI :=
  [
  ⟨(some 6), none, (.mv (.t 0))⟩,
  ⟨(some 7), none, (.bin .lss (.t 6) (.c (.lit (.int .i64 1))))⟩,
  ⟨(some 8), none, (.mv (.t 7))⟩,
  ⟨(some 9), (some (8, false)), (.mv (.t 0))⟩,
  ⟨(some 10), (some (8, false)), (.bin .gtr (.t 9) (.c (.lit (.int .i64 64))))⟩,
  ⟨(some 11), none, (.pick (.t 8) (.c (.lit (.bool true))) (.t 10))⟩]

def f4_2 : List AI :=
  [
  ⟨(some 2), none, (.mv (.c (.lit .nilp)))⟩,
  ⟨(some 3), none, (.mv (.c (.lit (.int .i64 3))))⟩]

def f4_3 : AC :=
  (.seq (.ops f4_2)
  .ret)

def f4_4 : List AI :=
  [
  ⟨(some 12), none, (.mv (.t 0))⟩,
  ⟨(some 13), none, (.mkslice 1 8 [(.lit (.int .i64 0))] (.t 12) (.t 12))⟩,
  ⟨(some 4), none, (.mv (.t 13))⟩]

def f4_5 : List AI :=
  [
  ⟨(some 14), none, (.mv (.t 4))⟩,
  ⟨(some 15), none, (.len 1 (.t 14))⟩,
  ⟨(some 16), none, (.mv (.c (.lit (.int .i64 0))))⟩]

def f4_6 : List AI :=
  [
  ⟨(some 18), none, (.mv (.t 16))⟩,
  ⟨(some 5), none, (.mv (.t 18))⟩]

def f4_7 : List AI :=
  [
  ⟨(some 19), none, (.mv (.t 4))⟩,
  ⟨(some 20), none, (.mv (.t 5))⟩,
  ⟨(some 21), none, (.mv (.t 5))⟩,
  ⟨(some 22), none, (.iaddr 1 (.t 19) (.t 20))⟩,
  ⟨none, none, (.st 1 (.t 22) (.t 21))⟩]

def f4_8 : AC :=
  (.seq (.ops f4_6)
  (.ops f4_7))

def f4_9 : List AI :=
  [
  ⟨(some 23), none, (.bin .add (.t 16) (.c (.lit (.int .i64 1))))⟩,
  ⟨(some 16), none, (.mv (.t 23))⟩]

def f4_10 : AC :=
  (.seq (.ops [
  ⟨(some 17), none, (.bin .lss (.t 16) (.t 15))⟩])
  (.seq (.cond (.t 17) .skip (.exit 0))
  (.seq (.block 1 f4_8)
  (.ops f4_9))))

def f4_11 : AC :=
  (.loop [4, 15, 16] f4_10)

def f4_12 : List AI :=
  [
  ⟨(some 24), none, .mkmap⟩,
  ⟨(some 25), none, (.mv (.t 4))⟩,
  ⟨none, none, (.mapup 0 (.t 24) (.c (.lit (.int .i64 0))) (.t 25))⟩,
  ⟨(some 26), none, (.mv (.t 24))⟩,
  ⟨(some 27), none, (.build [(.lit .nilm)] [(0, (1, (.t 26)))])⟩,
  ⟨(some 28), none, (.box (.t 27))⟩,
  ⟨(some 2), none, (.mv (.t 28))⟩,
  ⟨(some 3), none, (.mv (.c (.lit (.int .i64 0))))⟩]

def f4 : AFn := ⟨1, 29, [(.tmp 2), (.tmp 3)],
  (.seq (.ops f4_0)
  (.seq (.seq (.ops f4_1)
  (.cond (.t 11) f4_3 .skip))
  (.seq (.ops f4_4)
  (.seq (.seq (.ops f4_5)
  (.block 0 f4_11))
  (.seq (.ops f4_12)
  .ret)))))⟩

theorem f4_tr : trFn Go.Proofs.Try.prog 4 [[4, 15, 16]] = some f4 := by kernel_rfl

def f5_0 : List AI :=
  [
  ⟨(some 3), none, (.mv (.t 0))⟩,
  ⟨(some 4), none, (.bin .rem (.t 3) (.c (.lit (.int .u8 5))))⟩,
  ⟨(some 5), none, (.bin .eql (.t 4) (.c (.lit (.int .u8 4))))⟩]

def f5_1 : AC :=
  (.seq (.ops [
  ⟨(some 2), none, (.mv (.c (.lit (.int .i64 (-2)))))⟩])
  .ret)

def f5_2 : List AI :=
  [
  ⟨(some 6), none, (.mv (.t 0))⟩,
  ⟨(some 7), none, (.bin .rem (.t 6) (.c (.lit (.int .u8 5))))⟩,
  ⟨(some 8), none, (.conv .i64 (.t 7))⟩,
  ⟨(some 2), none, (.mv (.t 8))⟩]

def f5 : AFn := ⟨1, 9, [(.tmp 2)],
  (.seq (.ops [
  ⟨(some 2), none, (.mv (.c (.lit (.int .i64 0))))⟩])
  (.seq (.seq (.ops f5_0)
  (.cond (.t 5) f5_1 .skip))
  (.seq (.ops f5_2)
  .ret)))⟩

theorem f5_tr : trFn Go.Proofs.Try.prog 5 [] = some f5 := by kernel_rfl

def f6_0 : List AI :=
  [
  ⟨(some 7), none, (.box (.t 3))⟩,
  ⟨(some 8), none, (.mv (.c (.lit .nils)))⟩,
  ⟨(some 9), none, (.mv (.c (.lit (.int .i64 0))))⟩]

def f6_1 : List AI :=
  [
  ⟨(some 25), none, (.mv (.t 0))⟩,
  ⟨(some 26), none, (.mv (.t 1))⟩,
  ⟨(some 27), none, (.call (.c (.fn (.func 7) [] [])) [(.t 25), (.t 26)])⟩,
  ⟨(some 24), none, (.mv (.t 27))⟩,
  ⟨(some 28), none, (.ext (.t 24) 0)⟩,
  ⟨(some 29), none, (.ext (.t 24) 1)⟩,
  ⟨(some 10), none, (.mv (.t 28))⟩,
  ⟨(some 11), none, (.mv (.t 29))⟩]

def f6_2 : List AI :=
  [
  ⟨(some 31), none, (.mv (.t 11))⟩,
  ⟨(some 32), none, (.bin .neq (.t 31) (.c (.lit (.int .i64 0))))⟩,
  ⟨(some 30), none, (.mv (.t 32))⟩]

def f6_3 : List AI :=
  [
  ⟨(some 33), none, (.mv (.t 11))⟩,
  ⟨(some 8), none, (.mv (.c (.lit .nils)))⟩,
  ⟨(some 9), none, (.mv (.t 33))⟩]

def f6_4 : AC :=
  (.seq (.ops f6_3)
  .ret)

def f6_5 : List AI :=
  [
  ⟨(some 35), none, (.mv (.t 2))⟩,
  ⟨(some 36), none, (.len 1 (.t 35))⟩,
  ⟨(some 37), none, (.mv (.t 10))⟩,
  ⟨(some 38), none, (.len 1 (.t 37))⟩,
  ⟨(some 39), none, (.bin .neq (.t 36) (.t 38))⟩,
  ⟨(some 40), none, (.mv (.t 39))⟩,
  ⟨(some 41), (some (40, false)), (.ld none (.t 7))⟩,
  ⟨(some 42), (some (40, false)), (.len 1 (.t 41))⟩,
  ⟨(some 43), (some (40, false)), (.mv (.t 10))⟩,
  ⟨(some 44), (some (40, false)), (.len 1 (.t 43))⟩,
  ⟨(some 45), (some (40, false)), (.bin .neq (.t 42) (.t 44))⟩,
  ⟨(some 46), none, (.pick (.t 40) (.c (.lit (.bool true))) (.t 45))⟩,
  ⟨(some 34), none, (.mv (.t 46))⟩]

def f6_6 : List AI :=
  [
  ⟨(some 8), none, (.mv (.c (.lit .nils)))⟩,
  ⟨(some 9), none, (.mv (.c (.lit (.int .i64 26))))⟩]

def f6_7 : AC :=
  (.seq (.ops f6_6)
  .ret)

def f6_8 : List AI :=
  [
  ⟨(some 48), none, (.mv (.t 2))⟩,
  ⟨(some 49), none, (.call (.c (.fn (.func 14) [] [])) [(.t 48), (.c (.fn (.func 15) [] []))])⟩,
  ⟨(some 47), none, (.mv (.t 49))⟩]

def f6_9 : List AI :=
  [
  ⟨(some 8), none, (.mv (.c (.lit .nils)))⟩,
  ⟨(some 9), none, (.mv (.c (.lit (.int .i64 2))))⟩]

def f6_10 : AC :=
  (.seq (.ops f6_9)
  .ret)

def f6_11 : AC :=
  (.seq (.ops f6_8)
  (.cond (.t 47) f6_10 .skip))

def f6_12 : AC :=
  (.seq (.ops f6_5)
  (.cond (.t 34) f6_7 f6_11))

def f6_13 : AC :=
  (.seq (.ops f6_2)
  (.cond (.t 30) f6_4 f6_12))

def f6_14 : List AI :=
  [
  ⟨(some 50), none, .mkmap⟩,
  ⟨(some 12), none, (.mv (.t 50))⟩]

def f6_15 : List AI :=
  [
  ⟨(some 51), none, (.mv (.t 2))⟩,
  ⟨(some 52), none, (.len 1 (.t 51))⟩,
  ⟨(some 53), none, (.mv (.c (.lit (.int .i64 0))))⟩]

def f6_16 : List AI :=
  [
  ⟨(some 55), none, (.mv (.t 53))⟩,
  ⟨(some 56), none, (.iaddr 1 (.t 51) (.t 53))⟩,
  ⟨(some 57), none, (.ld none (.t 56))⟩,
  ⟨(some 13), none, (.mv (.t 55))⟩,
  ⟨(some 14), none, (.mv (.t 57))⟩]

def f6_17 : List AI :=
  [
  ⟨(some 58), none, (.mv (.t 14))⟩,
  ⟨(some 59), none, (.bin .neq (.t 58) (.c (.lit (.int .i64 (-2)))))⟩]

def f6_18 : List AI :=
  [
  ⟨(some 60), none, (.mv (.t 12))⟩,
  ⟨(some 61), none, (.mv (.t 14))⟩,
  ⟨(some 62), none, (.mv (.t 12))⟩,
  ⟨(some 63), none, (.mv (.t 14))⟩,
  ⟨(some 64), none, (.lookup 0 (.lit .nils) (.t 62) (.t 63) false)⟩,
  ⟨(some 65), none, (.mv (.t 13))⟩,
  ⟨(some 66), none, (.rowlit 1 1 [(.lit (.int .i64 0))] [(0, (1, (.t 65)))])⟩,
  ⟨(some 67), none, (.app false 1 8 (.t 64) (.t 66))⟩,
  ⟨none, none, (.mapup 0 (.t 60) (.t 61) (.t 67))⟩]

def f6_19 : AC :=
  (.seq (.ops f6_16)
  (.seq (.ops f6_17)
  (.cond (.t 59) (.ops f6_18) .skip)))

def f6_20 : List AI :=
  [
  ⟨(some 68), none, (.bin .add (.t 53) (.c (.lit (.int .i64 1))))⟩,
  ⟨(some 53), none, (.mv (.t 68))⟩]

def f6_21 : AC :=
  (.seq (.ops [
  ⟨(some 54), none, (.bin .lss (.t 53) (.t 52))⟩])
  (.seq (.cond (.t 54) .skip (.exit 1))
  (.seq (.block 2 f6_19)
  (.ops f6_20))))

def f6_22 : AC :=
  (.loop [0, 7, 10, 12, 51, 52, 53] f6_21)

def f6_23 : List AI :=
  [
  ⟨(some 69), none, (.mv (.t 0))⟩,
  ⟨(some 70), none, (.nilc (.t 69))⟩,
  ⟨(some 71), none, (.faddr 0 (.t 70))⟩,
  ⟨(some 72), none, (.ld none (.t 71))⟩,
  ⟨(some 73), none, (.len 2 (.t 72))⟩,
  ⟨(some 74), none, (.mv (.t 12))⟩,
  ⟨(some 75), none, (.len 2 (.t 74))⟩,
  ⟨(some 76), none, (.bin .add (.t 73) (.t 75))⟩,
  ⟨(some 77), none, (.bin .gtr (.t 76) (.c (.lit (.int .i64 64))))⟩]

def f6_24 : List AI :=
  [
  ⟨(some 8), none, (.mv (.c (.lit .nils)))⟩,
  ⟨(some 9), none, (.mv (.c (.lit (.int .i64 18))))⟩]

def f6_25 : AC :=
  (.seq (.ops f6_24)
  .ret)

def f6_26 : List AI :=
  [
  ⟨(some 78), none, (.rowlit 1 1 [(.lit (.int .i64 0))] [(0, (1, (.c (.lit (.int .i64 (-2))))))])⟩,
  ⟨(some 79), none, (.mv (.t 10))⟩,
  ⟨(some 80), none, (.len 1 (.t 79))⟩,
  ⟨(some 81), none, (.call (.c (.fn (.func 16) [] [])) [(.t 78), (.t 80)])⟩,
  ⟨(some 15), none, (.mv (.t 81))⟩]

def f6_27 : List AI :=
  [
  ⟨(some 82), none, (.mv (.t 12))⟩,
  ⟨(some 83), none, (.call (.c (.fn (.func 18) [] [])) [(.t 82)])⟩,
  ⟨(some 84), none, (.call (.c (.fn (.func 17) [] [])) [(.t 83)])⟩,
  ⟨(some 85), none, (.len 1 (.t 84))⟩,
  ⟨(some 86), none, (.mv (.c (.lit (.int .i64 0))))⟩]

def f6_28 : List AI :=
  [
  ⟨(some 88), none, (.iaddr 1 (.t 84) (.t 86))⟩,
  ⟨(some 89), none, (.ld none (.t 88))⟩,
  ⟨(some 17), none, (.mv (.t 89))⟩]

def f6_29 : List AI :=
  [
  ⟨(some 90), none, (.mv (.t 12))⟩,
  ⟨(some 91), none, (.mv (.t 17))⟩,
  ⟨(some 92), none, (.lookup 0 (.lit .nils) (.t 90) (.t 91) false)⟩,
  ⟨(some 93), none, (.func (.func 20) [] [(.t 7)])⟩,
  ⟨(some 94), none, (.call (.c (.fn (.func 19) [] [])) [(.t 92), (.t 93)])⟩]

def f6_30 : List AI :=
  [
  ⟨(some 96), none, (.mv (.t 10))⟩,
  ⟨(some 97), none, (.mv (.t 12))⟩,
  ⟨(some 98), none, (.mv (.t 17))⟩,
  ⟨(some 99), none, (.lookup 0 (.lit .nils) (.t 97) (.t 98) false)⟩,
  ⟨(some 100), none, (.call (.c (.fn (.func 21) [] [])) [(.t 96), (.t 99)])⟩,
  ⟨(some 95), none, (.mv (.t 100))⟩,
  ⟨(some 101), none, (.ext (.t 95) 0)⟩,
  ⟨(some 102), none, (.ext (.t 95) 1)⟩,
  ⟨(some 18), none, (.mv (.t 101))⟩,
  ⟨(some 19), none, (.mv (.t 102))⟩]

def f6_31 : List AI :=
  [
  ⟨(some 104), none, (.mv (.t 0))⟩,
  ⟨(some 105), none, (.mv (.t 18))⟩,
  ⟨(some 106), none, (.call (.c (.fn (.func 22) [] [])) [(.t 104), (.t 105)])⟩,
  ⟨(some 103), none, (.mv (.t 106))⟩,
  ⟨(some 107), none, (.ext (.t 103) 0)⟩,
  ⟨(some 108), none, (.ext (.t 103) 1)⟩,
  ⟨(some 20), none, (.mv (.t 107))⟩,
  ⟨(some 21), none, (.mv (.t 108))⟩]

def f6_32 : List AI :=
  [
  ⟨(some 109), none, (.mv (.t 21))⟩,
  ⟨(some 110), none, (.bin .neq (.t 109) (.c (.lit (.int .i64 0))))⟩]

def f6_33 : List AI :=
  [
  ⟨(some 111), none, (.mv (.t 21))⟩,
  ⟨(some 8), none, (.mv (.c (.lit .nils)))⟩,
  ⟨(some 9), none, (.mv (.t 111))⟩]

def f6_34 : AC :=
  (.seq (.ops f6_33)
  .ret)

def f6_35 : List AI :=
  [
  ⟨(some 112), none, (.mv (.t 12))⟩,
  ⟨(some 113), none, (.mv (.t 17))⟩,
  ⟨(some 114), none, (.lookup 0 (.lit .nils) (.t 112) (.t 113) false)⟩,
  ⟨(some 115), none, (.len 1 (.t 114))⟩,
  ⟨(some 116), none, (.mv (.c (.lit (.int .i64 0))))⟩]

def f6_36 : List AI :=
  [
  ⟨(some 118), none, (.iaddr 1 (.t 114) (.t 116))⟩,
  ⟨(some 119), none, (.ld none (.t 118))⟩,
  ⟨(some 23), none, (.mv (.t 119))⟩]

def f6_37 : List AI :=
  [
  ⟨(some 120), none, (.mv (.t 15))⟩,
  ⟨(some 121), none, (.mv (.t 23))⟩,
  ⟨(some 122), none, (.mv (.t 20))⟩,
  ⟨(some 123), none, (.iaddr 1 (.t 120) (.t 121))⟩,
  ⟨none, none, (.st 1 (.t 123) (.t 122))⟩]

def f6_38 : AC :=
  (.seq (.ops f6_36)
  (.ops f6_37))

def f6_39 : List AI :=
  [
  ⟨(some 124), none, (.bin .add (.t 116) (.c (.lit (.int .i64 1))))⟩,
  ⟨(some 116), none, (.mv (.t 124))⟩]

def f6_40 : AC :=
  (.seq (.ops [
  ⟨(some 117), none, (.bin .lss (.t 116) (.t 115))⟩])
  (.seq (.cond (.t 117) .skip (.exit 5))
  (.seq (.block 6 f6_38)
  (.ops f6_39))))

def f6_41 : AC :=
  (.loop [0, 7, 10, 12, 15, 20, 84, 85, 86, 114, 115, 116] f6_40)

def f6_42 : AC :=
  (.seq (.ops f6_28)
  (.seq (.ops f6_29)
  (.seq (.ops f6_30)
  (.seq (.ops f6_31)
  (.seq (.seq (.ops f6_32)
  (.cond (.t 110) f6_34 .skip))
  (.seq (.ops f6_35)
  (.block 5 f6_41)))))))

def f6_43 : List AI :=
  [
  ⟨(some 125), none, (.bin .add (.t 86) (.c (.lit (.int .i64 1))))⟩,
  ⟨(some 86), none, (.mv (.t 125))⟩]

def f6_44 : AC :=
  (.seq (.ops [
  ⟨(some 87), none, (.bin .lss (.t 86) (.t 85))⟩])
  (.seq (.cond (.t 87) .skip (.exit 3))
  (.seq (.block 4 f6_42)
  (.ops f6_43))))

def f6_45 : AC :=
  (.loop [0, 7, 10, 12, 15, 84, 85, 86] f6_44)

def f6_46 : List AI :=
  [
  ⟨(some 126), none, (.mv (.t 15))⟩,
  ⟨(some 8), none, (.mv (.t 126))⟩,
  ⟨(some 9), none, (.mv (.c (.lit (.int .i64 0))))⟩]

def f6 : AFn := ⟨4, 127, [(.tmp 8), (.tmp 9)],
  (.seq (.ops f6_0)
  (.seq (.ops f6_1)
  (.seq (.block 0 f6_13)
  (.seq (.ops f6_14)
  (.seq (.seq (.ops f6_15)
  (.block 1 f6_22))
  (.seq (.seq (.ops f6_23)
  (.cond (.t 77) f6_25 .skip))
  (.seq (.ops f6_26)
  (.seq (.seq (.ops f6_27)
  (.block 3 f6_45))
  (.seq (.ops f6_46)
  .ret)))))))))⟩

theorem f6_tr : trFn Go.Proofs.Try.prog 6 [[0, 7, 10, 12, 51, 52, 53], [0, 7, 10, 12, 15, 84, 85, 86], [0, 7, 10, 12, 15, 20, 84, 85, 86, 114, 115, 116]] = some f6 := by kernel_rfl

def f7_0 : List AI :=
  [
  ⟨(some 4), none, (.mv (.c (.lit .nils)))⟩,
  ⟨(some 5), none, (.mv (.c (.lit (.int .i64 0))))⟩]

def f7_1 : List AI :=
  [
  ⟨(some 8), none, (.mv (.t 0))⟩,
  ⟨(some 9), none, (.call (.c (.fn (.func 23) [] [])) [(.t 8)])⟩,
  ⟨(some 10), none, (.un .not (.t 9))⟩]

def f7_2 : List AI :=
  [
  ⟨(some 4), none, (.mv (.c (.lit .nils)))⟩,
  ⟨(some 5), none, (.mv (.c (.lit (.int .i64 1))))⟩]

def f7_3 : AC :=
  (.seq (.ops f7_2)
  .ret)

def f7_4 : List AI :=
  [
  ⟨(some 12), none, (.mv (.t 0))⟩,
  ⟨(some 13), none, (.nilc (.t 12))⟩,
  ⟨(some 14), none, (.faddr 0 (.t 13))⟩,
  ⟨(some 15), none, (.ld none (.t 14))⟩,
  ⟨(some 16), none, (.mv (.t 1))⟩,
  ⟨(some 17), none, (.lookup 0 (.lit .nils) (.t 15) (.t 16) true)⟩,
  ⟨(some 11), none, (.mv (.t 17))⟩,
  ⟨(some 18), none, (.ext (.t 11) 0)⟩,
  ⟨(some 19), none, (.ext (.t 11) 1)⟩,
  ⟨(some 6), none, (.mv (.t 18))⟩,
  ⟨(some 7), none, (.mv (.t 19))⟩]

def f7_5 : List AI :=
  [
  ⟨(some 20), none, (.mv (.t 7))⟩,
  ⟨(some 21), none, (.un .not (.t 20))⟩]

def f7_6 : List AI :=
  [
  ⟨(some 4), none, (.mv (.c (.lit .nils)))⟩,
  ⟨(some 5), none, (.mv (.c (.lit (.int .i64 4))))⟩]

def f7_7 : AC :=
  (.seq (.ops f7_6)
  .ret)

def f7_8 : List AI :=
  [
  ⟨(some 22), none, (.mv (.t 6))⟩,
  ⟨(some 23), none, (.call (.c (.fn (.func 24) [] [])) [(.t 22)])⟩,
  ⟨(some 4), none, (.mv (.t 23))⟩,
  ⟨(some 5), none, (.mv (.c (.lit (.int .i64 0))))⟩]

def f7 : AFn := ⟨2, 24, [(.tmp 4), (.tmp 5)],
  (.seq (.ops f7_0)
  (.seq (.seq (.ops f7_1)
  (.cond (.t 10) f7_3 .skip))
  (.seq (.ops f7_4)
  (.seq (.seq (.ops f7_5)
  (.cond (.t 21) f7_7 .skip))
  (.seq (.ops f7_8)
  .ret)))))⟩

theorem f7_tr : trFn Go.Proofs.Try.prog 7 [] = some f7 := by kernel_rfl

def f8_0 : List AI :=
  [
  ⟨(some 6), none, (.mv (.t 0))⟩,
  ⟨(some 7), none, (.len 1 (.t 6))⟩,
  ⟨(some 8), none, (.mv (.t 1))⟩,
  ⟨(some 9), none, (.len 1 (.t 8))⟩,
  ⟨(some 10), none, (.bin .neq (.t 7) (.t 9))⟩]

def f8_1 : AC :=
  (.seq (.ops [
  ⟨(some 4), none, (.mv (.c (.lit (.bool false))))⟩])
  .ret)

def f8_2 : List AI :=
  [
  ⟨(some 11), none, (.mv (.t 0))⟩,
  ⟨(some 12), none, (.len 1 (.t 11))⟩,
  ⟨(some 13), none, (.mv (.c (.lit (.int .i64 0))))⟩]

def f8_3 : List AI :=
  [
  ⟨(some 15), none, (.mv (.t 13))⟩,
  ⟨(some 5), none, (.mv (.t 15))⟩]

def f8_4 : List DI :=
  [
  ⟨0, ⟨(some 16), none, (.mv (.t 0))⟩, [0], [], [], []⟩,
  ⟨1, ⟨(some 17), none, (.mv (.t 5))⟩, [5], [], [], []⟩,
  ⟨2, ⟨(some 18), none, (.iaddr 1 (.t 16) (.t 17))⟩, [16, 17], [1, 0], [], []⟩,
  ⟨3, ⟨(some 19), none, (.ld none (.t 18))⟩, [18], [0, 1, 2], [], []⟩,
  ⟨4, ⟨(some 20), none, (.mv (.t 1))⟩, [1], [], [], []⟩,
  ⟨5, ⟨(some 21), none, (.mv (.t 5))⟩, [5], [], [], []⟩,
  ⟨6, ⟨(some 22), none, (.iaddr 1 (.t 20) (.t 21))⟩, [20, 21], [5, 4], [], []⟩,
  ⟨7, ⟨(some 23), none, (.ld none (.t 22))⟩, [22], [4, 5, 6], [], []⟩,
  ⟨8, ⟨(some 24), none, (.bin .neq (.t 19) (.t 23))⟩, [19, 23], [6, 5, 4, 7, 2, 1, 0, 3], [], []⟩]

def f8_5 : AC :=
  (.seq (.ops [
  ⟨(some 4), none, (.mv (.c (.lit (.bool false))))⟩])
  .ret)

def f8_6 : AC :=
  (.seq (.ops f8_3)
  (.seq (.draw f8_4)
  (.cond (.t 24) f8_5 .skip)))

def f8_7 : List AI :=
  [
  ⟨(some 25), none, (.bin .add (.t 13) (.c (.lit (.int .i64 1))))⟩,
  ⟨(some 13), none, (.mv (.t 25))⟩]

def f8_8 : AC :=
  (.seq (.ops [
  ⟨(some 14), none, (.bin .lss (.t 13) (.t 12))⟩])
  (.seq (.cond (.t 14) .skip (.exit 0))
  (.seq (.block 1 f8_6)
  (.ops f8_7))))

def f8_9 : AC :=
  (.loop [0, 1, 12, 13] f8_8)

def f8 : AFn := ⟨2, 26, [(.tmp 4)],
  (.seq (.ops [
  ⟨(some 4), none, (.mv (.c (.lit (.bool false))))⟩])
  (.seq (.seq (.ops f8_0)
  (.cond (.t 10) f8_1 .skip))
  (.seq (.seq (.ops f8_2)
  (.block 0 f8_9))
  (.seq (.ops [
  ⟨(some 4), none, (.mv (.c (.lit (.bool true))))⟩])
  .ret))))⟩

theorem f8_tr : trFn Go.Proofs.Try.prog 8 [[0, 1, 12, 13]] = some f8 := by kernel_rfl

def f9_0 : List AI :=
  [
  ⟨(some 6), none, (.mv (.c (.lit .nils)))⟩,
  ⟨(some 7), none, (.mv (.c (.lit (.int .i64 0))))⟩]

def f9_1 : List AI :=
  [
  ⟨(some 14), none, (.mv (.t 0))⟩,
  ⟨(some 15), none, (.mv (.t 2))⟩,
  ⟨(some 16), none, (.call (.c (.fn (.func 25) [] [])) [(.t 14), (.t 15)])⟩,
  ⟨(some 8), none, (.mv (.t 16))⟩]

def f9_2 : List AI :=
  [
  ⟨(some 17), none, (.mv (.t 8))⟩,
  ⟨(some 18), none, (.bin .neq (.t 17) (.c (.lit (.int .i64 0))))⟩]

def f9_3 : List AI :=
  [
  ⟨(some 19), none, (.mv (.t 8))⟩,
  ⟨(some 6), none, (.mv (.c (.lit .nils)))⟩,
  ⟨(some 7), none, (.mv (.t 19))⟩]

def f9_4 : AC :=
  (.seq (.ops f9_3)
  .ret)

def f9_5 : List AI :=
  [
  ⟨(some 20), none, (.mv (.t 1))⟩,
  ⟨(some 21), none, (.len 1 (.t 20))⟩,
  ⟨(some 22), none, (.mv (.c (.lit (.int .i64 0))))⟩]

def f9_6 : List AI :=
  [
  ⟨(some 24), none, (.iaddr 1 (.t 20) (.t 22))⟩,
  ⟨(some 25), none, (.ld none (.t 24))⟩,
  ⟨(some 11), none, (.mv (.t 25))⟩]

def f9_7 : List AI :=
  [
  ⟨(some 36), none, (.mv (.t 11))⟩,
  ⟨(some 37), none, (.bin .eql (.t 36) (.c (.lit (.int .i64 (-2)))))⟩,
  ⟨(some 35), none, (.mv (.t 37))⟩]

def f9_8 : List AI :=
  [
  ⟨(some 39), none, (.mv (.t 11))⟩,
  ⟨(some 40), none, (.bin .lss (.t 39) (.c (.lit (.int .i64 0))))⟩,
  ⟨(some 41), none, (.mv (.t 40))⟩,
  ⟨(some 42), (some (41, false)), (.mv (.t 11))⟩,
  ⟨(some 43), (some (41, false)), (.mv (.t 0))⟩,
  ⟨(some 44), (some (41, false)), (.len 1 (.t 43))⟩,
  ⟨(some 45), (some (41, false)), (.bin .geq (.t 42) (.t 44))⟩,
  ⟨(some 46), none, (.pick (.t 41) (.c (.lit (.bool true))) (.t 45))⟩,
  ⟨(some 38), none, (.mv (.t 46))⟩]

def f9_9 : List AI :=
  [
  ⟨(some 6), none, (.mv (.c (.lit .nils)))⟩,
  ⟨(some 7), none, (.mv (.c (.lit (.int .i64 11))))⟩]

def f9_10 : AC :=
  (.seq (.ops f9_9)
  .ret)

def f9_11 : List AI :=
  [
  ⟨(some 26), none, (.mv (.t 2))⟩,
  ⟨(some 27), none, (.mv (.t 0))⟩,
  ⟨(some 28), none, (.mv (.t 11))⟩,
  ⟨(some 29), none, (.iaddr 1 (.t 27) (.t 28))⟩,
  ⟨(some 30), none, (.ld none (.t 29))⟩,
  ⟨(some 31), none, (.call (.c (.fn (.func 26) [] [])) [(.t 26), (.t 30)])⟩,
  ⟨(some 13), none, (.mv (.t 31))⟩]

def f9_12 : List AI :=
  [
  ⟨(some 32), none, (.mv (.t 13))⟩,
  ⟨(some 33), none, (.bin .geq (.t 32) (.c (.lit (.int .i64 0))))⟩]

def f9_13 : List AI :=
  [
  ⟨(some 34), none, (.mv (.t 13))⟩,
  ⟨(some 12), none, (.mv (.t 34))⟩]

def f9_14 : AC :=
  (.seq (.ops f9_11)
  (.seq (.ops f9_12)
  (.cond (.t 33) (.ops f9_13) .skip)))

def f9_15 : AC :=
  (.seq (.ops f9_8)
  (.cond (.t 38) f9_10 f9_14))

def f9_16 : AC :=
  (.seq (.ops f9_7)
  (.cond (.t 35) .skip f9_15))

def f9_17 : List AI :=
  [
  ⟨(some 47), none, (.mv (.t 9))⟩,
  ⟨(some 48), none, (.mv (.t 12))⟩,
  ⟨(some 49), none, (.rowlit 1 1 [(.lit (.int .i64 0))] [(0, (1, (.t 48)))])⟩,
  ⟨(some 50), none, (.app false 1 8 (.t 47) (.t 49))⟩,
  ⟨(some 9), none, (.mv (.t 50))⟩]

def f9_18 : AC :=
  (.seq (.ops f9_6)
  (.seq (.ops [
  ⟨(some 12), none, (.mv (.c (.lit (.int .i64 (-2)))))⟩])
  (.seq (.block 2 f9_16)
  (.ops f9_17))))

def f9_19 : List AI :=
  [
  ⟨(some 51), none, (.bin .add (.t 22) (.c (.lit (.int .i64 1))))⟩,
  ⟨(some 22), none, (.mv (.t 51))⟩]

def f9_20 : AC :=
  (.seq (.ops [
  ⟨(some 23), none, (.bin .lss (.t 22) (.t 21))⟩])
  (.seq (.cond (.t 23) .skip (.exit 0))
  (.seq (.block 1 f9_18)
  (.ops f9_19))))

def f9_21 : AC :=
  (.loop [0, 2, 9, 20, 21, 22] f9_20)

def f9_22 : List AI :=
  [
  ⟨(some 52), none, (.mv (.t 9))⟩,
  ⟨(some 6), none, (.mv (.t 52))⟩,
  ⟨(some 7), none, (.mv (.c (.lit (.int .i64 0))))⟩]

def f9 : AFn := ⟨3, 53, [(.tmp 6), (.tmp 7)],
  (.seq (.ops f9_0)
  (.seq (.seq (.ops f9_1)
  (.seq (.ops f9_2)
  (.cond (.t 18) f9_4 .skip)))
  (.seq (.ops [
  ⟨(some 9), none, (.mv (.c (.lit .nils)))⟩])
  (.seq (.seq (.ops f9_5)
  (.block 0 f9_21))
  (.seq (.ops f9_22)
  .ret)))))⟩

theorem f9_tr : trFn Go.Proofs.Try.prog 9 [[0, 2, 9, 20, 21, 22]] = some f9 := by kernel_rfl

def f10_0 : List AI :=
  [
  ⟨(some 3), none, (.mv (.t 0))⟩,
  ⟨(some 4), none, (.call (.c (.fn (.func 23) [] [])) [(.t 3)])⟩,
  ⟨(some 5), none, (.un .not (.t 4))⟩]

def f10_1 : AC :=
  (.seq (.ops [
  ⟨(some 2), none, (.mv (.c (.lit .nils)))⟩])
  .ret)

def f10_2 : List AI :=
  [
  ⟨(some 6), none, (.mv (.t 0))⟩,
  ⟨(some 7), none, (.nilc (.t 6))⟩,
  ⟨(some 8), none, (.faddr 0 (.t 7))⟩,
  ⟨(some 9), none, (.ld none (.t 8))⟩,
  ⟨(some 10), none, (.call (.c (.fn (.func 18) [] [])) [(.t 9)])⟩,
  ⟨(some 11), none, (.call (.c (.fn (.func 17) [] [])) [(.t 10)])⟩,
  ⟨(some 2), none, (.mv (.t 11))⟩]

def f10 : AFn := ⟨1, 12, [(.tmp 2)],
  (.seq (.ops [
  ⟨(some 2), none, (.mv (.c (.lit .nils)))⟩])
  (.seq (.seq (.ops f10_0)
  (.cond (.t 5) f10_1 .skip))
  (.seq (.ops f10_2)
  .ret)))⟩

theorem f10_tr : trFn Go.Proofs.Try.prog 10 [] = some f10 := by kernel_rfl

def f11_0 : List AI :=
  [
  ⟨(some 8), none, (.mv (.t 0))⟩,
  ⟨(some 9), none, (.mv (.t 1))⟩,
  ⟨(some 10), none, (.call (.c (.fn (.func 7) [] [])) [(.t 8), (.t 9)])⟩,
  ⟨(some 7), none, (.mv (.t 10))⟩,
  ⟨(some 11), none, (.ext (.t 7) 0)⟩,
  ⟨(some 12), none, (.ext (.t 7) 1)⟩,
  ⟨(some 5), none, (.mv (.t 11))⟩,
  ⟨(some 6), none, (.mv (.t 12))⟩]

def f11_1 : List AI :=
  [
  ⟨(some 14), none, (.mv (.t 6))⟩,
  ⟨(some 15), none, (.bin .neq (.t 14) (.c (.lit (.int .i64 0))))⟩,
  ⟨(some 13), none, (.mv (.t 15))⟩]

def f11_2 : List AI :=
  [
  ⟨(some 16), none, (.mv (.t 6))⟩,
  ⟨(some 4), none, (.mv (.t 16))⟩]

def f11_3 : AC :=
  (.seq (.ops f11_2)
  .ret)

def f11_4 : List AI :=
  [
  ⟨(some 18), none, (.mv (.t 1))⟩,
  ⟨(some 19), none, (.bin .eql (.t 18) (.c (.lit (.int .i64 0))))⟩,
  ⟨(some 17), none, (.mv (.t 19))⟩]

def f11_5 : AC :=
  (.seq (.ops [
  ⟨(some 4), none, (.mv (.c (.lit (.int .i64 6))))⟩])
  .ret)

def f11_6 : AC :=
  (.seq (.ops f11_4)
  (.cond (.t 17) f11_5 .skip))

def f11_7 : AC :=
  (.seq (.ops f11_1)
  (.cond (.t 13) f11_3 f11_6))

def f11_8 : List AI :=
  [
  ⟨(some 20), none, (.mv (.t 0))⟩,
  ⟨(some 21), none, (.nilc (.t 20))⟩,
  ⟨(some 22), none, (.faddr 0 (.t 21))⟩,
  ⟨(some 23), none, (.ld none (.t 22))⟩,
  ⟨(some 24), none, (.mv (.t 1))⟩,
  ⟨none, none, (.del 0 (.t 23) (.t 24))⟩]

def f11 : AFn := ⟨2, 25, [(.tmp 4)],
  (.seq (.ops [
  ⟨(some 4), none, (.mv (.c (.lit (.int .i64 0))))⟩])
  (.seq (.ops f11_0)
  (.seq (.block 0 f11_7)
  (.seq (.ops f11_8)
  (.seq (.ops [
  ⟨(some 4), none, (.mv (.c (.lit (.int .i64 0))))⟩])
  .ret)))))⟩

theorem f11_tr : trFn Go.Proofs.Try.prog 11 [] = some f11 := by kernel_rfl

def f12_0 : List AI :=
  [
  ⟨(some 4), none, (.mv (.c (.lit (.int .i64 0))))⟩,
  ⟨(some 5), none, (.mv (.c (.lit (.int .i64 0))))⟩]

def f12_1 : List AI :=
  [
  ⟨(some 9), none, (.mv (.t 0))⟩,
  ⟨(some 10), none, (.mv (.t 1))⟩,
  ⟨(some 11), none, (.call (.c (.fn (.func 7) [] [])) [(.t 9), (.t 10)])⟩,
  ⟨(some 8), none, (.mv (.t 11))⟩,
  ⟨(some 12), none, (.ext (.t 8) 0)⟩,
  ⟨(some 13), none, (.ext (.t 8) 1)⟩,
  ⟨(some 6), none, (.mv (.t 12))⟩,
  ⟨(some 7), none, (.mv (.t 13))⟩]

def f12_2 : List AI :=
  [
  ⟨(some 14), none, (.mv (.t 7))⟩,
  ⟨(some 15), none, (.bin .neq (.t 14) (.c (.lit (.int .i64 0))))⟩]

def f12_3 : List AI :=
  [
  ⟨(some 16), none, (.mv (.t 7))⟩,
  ⟨(some 4), none, (.mv (.c (.lit (.int .i64 0))))⟩,
  ⟨(some 5), none, (.mv (.t 16))⟩]

def f12_4 : AC :=
  (.seq (.ops f12_3)
  .ret)

def f12_5 : List AI :=
  [
  ⟨(some 17), none, (.mv (.t 0))⟩,
  ⟨(some 18), none, (.mv (.t 6))⟩,
  ⟨(some 19), none, (.call (.c (.fn (.func 22) [] [])) [(.t 17), (.t 18)])⟩,
  ⟨(some 20), none, (.ext (.t 19) 0)⟩,
  ⟨(some 21), none, (.ext (.t 19) 1)⟩,
  ⟨(some 4), none, (.mv (.t 20))⟩,
  ⟨(some 5), none, (.mv (.t 21))⟩]

def f12 : AFn := ⟨2, 22, [(.tmp 4), (.tmp 5)],
  (.seq (.ops f12_0)
  (.seq (.ops f12_1)
  (.seq (.seq (.ops f12_2)
  (.cond (.t 15) f12_4 .skip))
  (.seq (.ops f12_5)
  .ret))))⟩

theorem f12_tr : trFn Go.Proofs.Try.prog 12 [] = some f12 := by kernel_rfl

def f13_0 : List AI :=
  [
  ⟨(some 10), none, (.call (.c (.fn (.func 4) [] [])) [(.c (.lit (.int .i64 4)))])⟩,
  ⟨(some 9), none, (.mv (.t 10))⟩,
  ⟨(some 11), none, (.ext (.t 9) 0)⟩,
  ⟨(some 12), none, (.ext (.t 9) 1)⟩,
  ⟨(some 1), none, (.mv (.t 11))⟩,
  ⟨(some 2), none, (.mv (.t 12))⟩]

def f13_1 : List AI :=
  [
  ⟨(some 13), none, (.mv (.t 2))⟩,
  ⟨(some 14), none, (.bin .neq (.t 13) (.c (.lit (.int .i64 0))))⟩]

def f13_2 : AC :=
  (.seq (.ops [
  ⟨(some 0), none, (.mv (.c (.lit (.bool false))))⟩])
  .ret)

def f13_3 : List AI :=
  [
  ⟨(some 16), none, (.mv (.t 1))⟩,
  ⟨(some 17), none, (.call (.c (.fn (.func 12) [] [])) [(.t 16), (.c (.lit (.int .i64 0)))])⟩,
  ⟨(some 15), none, (.mv (.t 17))⟩,
  ⟨(some 18), none, (.ext (.t 15) 0)⟩,
  ⟨(some 19), none, (.ext (.t 15) 1)⟩,
  ⟨(some 3), none, (.mv (.t 18))⟩,
  ⟨(some 4), none, (.mv (.t 19))⟩]

def f13_4 : List AI :=
  [
  ⟨(some 21), none, (.mv (.t 1))⟩,
  ⟨(some 22), none, (.rowlit 4 1 [(.lit (.int .i64 0)), (.lit (.int .i64 0)), (.lit (.int .i64 0)), (.lit (.int .i64 0))] [(0, (1, (.c (.lit (.int .i64 1))))), (1, (1, (.c (.lit (.int .i64 0))))), (2, (1, (.c (.lit (.int .i64 1))))), (3, (1, (.c (.lit (.int .i64 (-2))))))])⟩,
  ⟨(some 23), none, (.rowlit 4 1 [(.lit (.int .i64 0)), (.lit (.int .i64 0)), (.lit (.int .i64 0)), (.lit (.int .i64 0))] [(0, (1, (.c (.lit (.int .i64 5))))), (1, (1, (.c (.lit (.int .i64 0))))), (2, (1, (.c (.lit (.int .i64 2))))), (3, (1, (.c (.lit (.int .i64 0)))))])⟩,
  ⟨(some 24), none, (.call (.c (.fn (.func 6) [] [])) [(.t 21), (.c (.lit (.int .i64 0))), (.t 22), (.t 23)])⟩,
  ⟨(some 20), none, (.mv (.t 24))⟩,
  ⟨(some 25), none, (.ext (.t 20) 0)⟩,
  ⟨(some 26), none, (.ext (.t 20) 1)⟩,
  ⟨(some 5), none, (.mv (.t 25))⟩,
  ⟨(some 6), none, (.mv (.t 26))⟩]

def f13_5 : List AI :=
  [
  ⟨(some 28), none, (.mv (.t 1))⟩,
  ⟨(some 29), none, (.call (.c (.fn (.func 7) [] [])) [(.t 28), (.c (.lit (.int .i64 3)))])⟩,
  ⟨(some 27), none, (.mv (.t 29))⟩,
  ⟨(some 30), none, (.ext (.t 27) 0)⟩,
  ⟨(some 31), none, (.ext (.t 27) 1)⟩,
  ⟨(some 7), none, (.mv (.t 30))⟩,
  ⟨(some 8), none, (.mv (.t 31))⟩]

def f13_6 : List AI :=
  [
  ⟨(some 32), none, (.mv (.t 4))⟩,
  ⟨(some 33), none, (.bin .eql (.t 32) (.c (.lit (.int .i64 0))))⟩,
  ⟨(some 34), none, (.mv (.t 33))⟩,
  ⟨(some 35), (some (34, true)), (.mv (.t 6))⟩,
  ⟨(some 36), (some (34, true)), (.bin .eql (.t 35) (.c (.lit (.int .i64 0))))⟩,
  ⟨(some 37), none, (.pick (.t 34) (.t 36) (.c (.lit (.bool false))))⟩,
  ⟨(some 38), none, (.mv (.t 37))⟩,
  ⟨(some 39), (some (38, true)), (.mv (.t 8))⟩,
  ⟨(some 40), (some (38, true)), (.bin .eql (.t 39) (.c (.lit (.int .i64 0))))⟩,
  ⟨(some 41), none, (.pick (.t 38) (.t 40) (.c (.lit (.bool false))))⟩,
  ⟨(some 42), none, (.mv (.t 41))⟩,
  ⟨(some 43), (some (42, true)), (.mv (.t 3))⟩,
  ⟨(some 44), (some (42, true)), (.bin .eql (.t 43) (.c (.lit (.int .i64 1))))⟩,
  ⟨(some 45), none, (.pick (.t 42) (.t 44) (.c (.lit (.bool false))))⟩,
  ⟨(some 46), none, (.mv (.t 45))⟩,
  ⟨(some 47), (some (46, true)), (.mv (.t 5))⟩,
  ⟨(some 48), (some (46, true)), (.rowlit 4 1 [(.lit (.int .i64 0)), (.lit (.int .i64 0)), (.lit (.int .i64 0)), (.lit (.int .i64 0))] [(0, (1, (.c (.lit (.int .i64 3))))), (1, (1, (.c (.lit (.int .i64 2))))), (2, (1, (.c (.lit (.int .i64 3))))), (3, (1, (.c (.lit (.int .i64 (-2))))))])⟩,
  ⟨(some 49), (some (46, true)), (.call (.c (.fn (.func 8) [] [])) [(.t 47), (.t 48)])⟩,
  ⟨(some 50), none, (.pick (.t 46) (.t 49) (.c (.lit (.bool false))))⟩,
  ⟨(some 51), none, (.mv (.t 50))⟩,
  ⟨(some 52), (some (51, true)), (.mv (.t 7))⟩,
  ⟨(some 53), (some (51, true)), (.rowlit 2 1 [(.lit (.int .i64 0)), (.lit (.int .i64 0))] [(0, (1, (.c (.lit (.int .i64 2))))), (1, (1, (.c (.lit (.int .i64 0)))))])⟩,
  ⟨(some 54), (some (51, true)), (.call (.c (.fn (.func 8) [] [])) [(.t 52), (.t 53)])⟩,
  ⟨(some 55), none, (.pick (.t 51) (.t 54) (.c (.lit (.bool false))))⟩,
  ⟨(some 0), none, (.mv (.t 55))⟩]

def f13 : AFn := ⟨0, 56, [(.tmp 0)],
  (.seq (.ops [
  ⟨(some 0), none, (.mv (.c (.lit (.bool false))))⟩])
  (.seq (.ops f13_0)
  (.seq (.seq (.ops f13_1)
  (.cond (.t 14) f13_2 .skip))
  (.seq (.ops f13_3)
  (.seq (.ops f13_4)
  (.seq (.ops f13_5)
  (.seq (.ops f13_6)
  .ret)))))))⟩

theorem f13_tr : trFn Go.Proofs.Try.prog 13 [] = some f13 := by kernel_rfl

def f14_0 : List AI :=
  [
  ⟨(some 5), none, (.mv (.t 0))⟩,
  ⟨(some 6), none, (.mv (.t 1))⟩,
  ⟨(some 7), none, (.call (.c (.fn (.func 27) [] [])) [(.t 5), (.t 6)])⟩,
  ⟨(some 8), none, (.bin .geq (.t 7) (.c (.lit (.int .i64 0))))⟩,
  ⟨(some 4), none, (.mv (.t 8))⟩]

def f14 : AFn := ⟨2, 9, [(.tmp 4)],
  (.seq (.ops [
  ⟨(some 4), none, (.mv (.c (.lit (.bool false))))⟩])
  (.seq (.ops f14_0)
  .ret))⟩

theorem f14_tr : trFn Go.Proofs.Try.prog 14 [] = some f14 := by kernel_rfl

def f15_0 : List AI :=
  [
  ⟨(some 3), none, (.mv (.t 0))⟩,
  ⟨(some 4), none, (.bin .lss (.t 3) (.c (.lit (.int .i64 0))))⟩,
  ⟨(some 5), none, (.mv (.t 4))⟩,
  ⟨(some 6), (some (5, true)), (.mv (.t 0))⟩,
  ⟨(some 7), (some (5, true)), (.bin .neq (.t 6) (.c (.lit (.int .i64 (-2)))))⟩,
  ⟨(some 8), none, (.pick (.t 5) (.t 7) (.c (.lit (.bool false))))⟩,
  ⟨(some 2), none, (.mv (.t 8))⟩]

def f15 : AFn := ⟨1, 9, [(.tmp 2)],
  (.seq (.ops [
  ⟨(some 2), none, (.mv (.c (.lit (.bool false))))⟩])
  (.seq (.ops f15_0)
  .ret))⟩

theorem f15_tr : trFn Go.Proofs.Try.prog 15 [] = some f15 := by kernel_rfl

def f16_0 : List AI :=
  [
  ⟨(some 9), none, (.mv (.t 1))⟩,
  ⟨(some 10), none, (.bin .lss (.t 9) (.c (.lit (.int .i64 0))))⟩]

def f16_1 : List AI :=
  [
  ⟨(some 13), none, (.mv (.t 0))⟩,
  ⟨(some 14), none, (.len 1 (.t 13))⟩,
  ⟨(some 15), none, (.conv .u64 (.t 14))⟩,
  ⟨(some 16), none, (.mv (.t 1))⟩,
  ⟨(some 17), none, (.conv .u64 (.t 16))⟩,
  ⟨(some 18), none, (.call (.c (.fn (.func 28) [] [])) [(.t 15), (.t 17)])⟩,
  ⟨(some 12), none, (.mv (.t 18))⟩,
  ⟨(some 19), none, (.ext (.t 12) 0)⟩,
  ⟨(some 20), none, (.ext (.t 12) 1)⟩,
  ⟨(some 5), none, (.mv (.t 19))⟩,
  ⟨(some 6), none, (.mv (.t 20))⟩]

def f16_2 : List AI :=
  [
  ⟨(some 21), none, (.mv (.t 5))⟩,
  ⟨(some 22), none, (.bin .gtr (.t 21) (.c (.lit (.int .u64 0))))⟩,
  ⟨(some 23), none, (.mv (.t 22))⟩,
  ⟨(some 24), (some (23, false)), (.mv (.t 6))⟩,
  ⟨(some 25), (some (23, false)), (.bin .gtr (.t 24) (.c (.lit (.int .u64 9223372036854775807))))⟩,
  ⟨(some 26), none, (.pick (.t 23) (.c (.lit (.bool true))) (.t 25))⟩]

def f16_3 : List AI :=
  [
  ⟨(some 28), none, (.mv (.t 6))⟩,
  ⟨(some 29), none, (.conv .i64 (.t 28))⟩,
  ⟨(some 30), none, (.mkslice 1 8 [(.lit (.int .i64 0))] (.t 29) (.t 29))⟩,
  ⟨(some 7), none, (.mv (.t 30))⟩]

def f16_4 : List AI :=
  [
  ⟨(some 31), none, (.mv (.t 7))⟩,
  ⟨(some 32), none, (.mv (.t 0))⟩,
  ⟨(some 33), none, (.cpy 1 (.t 31) (.t 32))⟩,
  ⟨(some 8), none, (.mv (.t 33))⟩]

def f16_5 : List AI :=
  [
  ⟨(some 34), none, (.mv (.t 8))⟩,
  ⟨(some 35), none, (.mv (.t 7))⟩,
  ⟨(some 36), none, (.len 1 (.t 35))⟩,
  ⟨(some 37), none, (.bin .lss (.t 34) (.t 36))⟩]

def f16_6 : List DI :=
  [
  ⟨0, ⟨(some 38), none, (.mv (.t 8))⟩, [8], [], [], []⟩,
  ⟨1, ⟨(some 39), none, (.mv (.t 7))⟩, [7], [], [], []⟩,
  ⟨2, ⟨(some 40), none, (.mv (.t 8))⟩, [8], [], [], []⟩,
  ⟨3, ⟨(some 41), none, (.slice 1 (.t 39) (some (.t 40)) none)⟩, [39, 40], [2, 1], [], []⟩,
  ⟨4, ⟨(some 42), none, (.mv (.t 7))⟩, [7], [], [], []⟩,
  ⟨5, ⟨(some 43), none, (.mv (.t 8))⟩, [8], [], [], []⟩,
  ⟨6, ⟨(some 44), none, (.slice 1 (.t 42) none (some (.t 43)))⟩, [42, 43], [5, 4], [], []⟩,
  ⟨7, ⟨(some 45), none, (.cpy 1 (.t 41) (.t 44))⟩, [41, 44], [4, 5, 6, 1, 2, 3], [], []⟩,
  ⟨8, ⟨(some 46), none, (.bin .add (.t 38) (.t 45))⟩, [38, 45], [3, 2, 1, 6, 5, 4, 7, 0], [], []⟩,
  ⟨9, ⟨(some 8), none, (.mv (.t 46))⟩, [46], [0, 7, 4, 5, 6, 1, 2, 3, 8], [], []⟩]

def f16_7 : AC :=
  (.seq (.seq (.ops f16_5)
  (.cond (.t 37) .skip (.exit 0)))
  (.block 1 (.draw f16_6)))

def f16_8 : List AI :=
  [
  ⟨(some 47), none, (.mv (.t 7))⟩,
  ⟨(some 4), none, (.mv (.t 47))⟩]

def f16 : AFn := ⟨2, 48, [(.tmp 4)],
  (.seq (.ops [
  ⟨(some 4), none, (.mv (.c (.lit .nils)))⟩])
  (.seq (.seq (.ops f16_0)
  (.cond (.t 10) .stuck .skip))
  (.seq (.ops f16_1)
  (.seq (.seq (.ops f16_2)
  (.cond (.t 26) .stuck .skip))
  (.seq (.ops f16_3)
  (.seq (.ops f16_4)
  (.seq (.block 0 (.loop [7, 8] f16_7))
  (.seq (.ops f16_8)
  .ret))))))))⟩

theorem f16_tr : trFn Go.Proofs.Try.prog 16 [[7, 8]] = some f16 := by kernel_rfl

def f18_0 : List AI :=
  [
  ⟨(some 1), none, (.box (.t 0))⟩,
  ⟨(some 2), none, (.mv (.c (.lit .nilf)))⟩]

def f18_1 : List AI :=
  [
  ⟨(some 3), none, (.func (.func 31) [] [(.t 1)])⟩,
  ⟨(some 2), none, (.mv (.t 3))⟩]

def f18 : AFn := ⟨1, 4, [(.tmp 2)],
  (.seq (.ops f18_0)
  (.seq (.ops f18_1)
  .ret))⟩

theorem f18_tr : trFn Go.Proofs.Try.prog 18 [] = some f18 := by kernel_rfl

def f19_0 : List AI :=
  [
  ⟨(some 4), none, (.mv (.t 0))⟩,
  ⟨(some 5), none, (.mv (.t 0))⟩,
  ⟨(some 6), none, (.len 1 (.t 5))⟩,
  ⟨(some 7), none, (.mv (.t 1))⟩,
  ⟨(some 8), none, (.call (.c (.fn (.func 32) [] [])) [(.t 4), (.t 6), (.t 7)])⟩]

def f19 : AFn := ⟨2, 9, [],
  (.ops f19_0)⟩

theorem f19_tr : trFn Go.Proofs.Try.prog 19 [] = some f19 := by kernel_rfl

def f20_0 : List DI :=
  [
  ⟨0, ⟨(some 7), none, (.ld none (.t 2))⟩, [2], [], [], []⟩,
  ⟨1, ⟨(some 8), none, (.mv (.t 0))⟩, [0], [], [], []⟩,
  ⟨2, ⟨(some 9), none, (.iaddr 1 (.t 7) (.t 8))⟩, [7, 8], [1, 0], [], []⟩,
  ⟨3, ⟨(some 10), none, (.ld none (.t 9))⟩, [9], [0, 1, 2], [], []⟩,
  ⟨4, ⟨(some 11), none, (.ld none (.t 2))⟩, [2], [], [], []⟩,
  ⟨5, ⟨(some 12), none, (.mv (.t 1))⟩, [1], [], [], []⟩,
  ⟨6, ⟨(some 13), none, (.iaddr 1 (.t 11) (.t 12))⟩, [11, 12], [5, 4], [], []⟩,
  ⟨7, ⟨(some 14), none, (.ld none (.t 13))⟩, [13], [4, 5, 6], [], []⟩,
  ⟨8, ⟨(some 15), none, (.bin .lss (.t 10) (.t 14))⟩, [10, 14], [6, 5, 4, 7, 2, 1, 0, 3], [], []⟩,
  ⟨9, ⟨(some 6), none, (.mv (.t 15))⟩, [15], [3, 0, 1, 2, 7, 4, 5, 6, 8], [], []⟩]

def f20_1 : AC :=
  (.seq (.ops [
  ⟨(some 5), none, (.mv (.c (.lit (.int .i64 (-1)))))⟩])
  .ret)

def f20_2 : List DI :=
  [
  ⟨0, ⟨(some 17), none, (.ld none (.t 2))⟩, [2], [], [], []⟩,
  ⟨1, ⟨(some 18), none, (.mv (.t 0))⟩, [0], [], [], []⟩,
  ⟨2, ⟨(some 19), none, (.iaddr 1 (.t 17) (.t 18))⟩, [17, 18], [1, 0], [], []⟩,
  ⟨3, ⟨(some 20), none, (.ld none (.t 19))⟩, [19], [0, 1, 2], [], []⟩,
  ⟨4, ⟨(some 21), none, (.ld none (.t 2))⟩, [2], [], [], []⟩,
  ⟨5, ⟨(some 22), none, (.mv (.t 1))⟩, [1], [], [], []⟩,
  ⟨6, ⟨(some 23), none, (.iaddr 1 (.t 21) (.t 22))⟩, [21, 22], [5, 4], [], []⟩,
  ⟨7, ⟨(some 24), none, (.ld none (.t 23))⟩, [23], [4, 5, 6], [], []⟩,
  ⟨8, ⟨(some 25), none, (.bin .gtr (.t 20) (.t 24))⟩, [20, 24], [6, 5, 4, 7, 2, 1, 0, 3], [], []⟩,
  ⟨9, ⟨(some 16), none, (.mv (.t 25))⟩, [25], [3, 0, 1, 2, 7, 4, 5, 6, 8], [], []⟩]

def f20_3 : AC :=
  (.seq (.ops [
  ⟨(some 5), none, (.mv (.c (.lit (.int .i64 1))))⟩])
  .ret)

def f20_4 : AC :=
  (.seq (.draw f20_2)
  (.cond (.t 16) f20_3 .skip))

def f20_5 : AC :=
  (.seq (.draw f20_0)
  (.cond (.t 6) f20_1 f20_4))

def f20 : AFn := ⟨3, 26, [(.tmp 5)],
  (.seq (.ops [
  ⟨(some 5), none, (.mv (.c (.lit (.int .i64 0))))⟩])
  (.seq (.block 0 f20_5)
  (.seq (.ops [
  ⟨(some 5), none, (.mv (.c (.lit (.int .i64 0))))⟩])
  .ret)))⟩

theorem f20_tr : trFn Go.Proofs.Try.prog 20 [] = some f20 := by kernel_rfl

def f21_0 : List AI :=
  [
  ⟨(some 4), none, (.mv (.c (.lit .nils)))⟩,
  ⟨(some 5), none, (.mv (.c (.lit (.int .i64 0))))⟩]

def f21_1 : List AI :=
  [
  ⟨(some 10), none, (.mv (.t 0))⟩,
  ⟨(some 11), none, (.mv (.t 1))⟩,
  ⟨(some 12), none, (.call (.c (.fn (.func 33) [] [])) [(.t 10), (.t 11)])⟩,
  ⟨(some 6), none, (.mv (.t 12))⟩]

def f21_2 : List AI :=
  [
  ⟨(some 13), none, (.mv (.t 6))⟩,
  ⟨(some 14), none, (.bin .neq (.t 13) (.c (.lit (.int .i64 0))))⟩]

def f21_3 : List AI :=
  [
  ⟨(some 15), none, (.mv (.t 6))⟩,
  ⟨(some 4), none, (.mv (.c (.lit .nils)))⟩,
  ⟨(some 5), none, (.mv (.t 15))⟩]

def f21_4 : AC :=
  (.seq (.ops f21_3)
  .ret)

def f21_5 : List AI :=
  [
  ⟨(some 16), none, (.mv (.t 1))⟩,
  ⟨(some 17), none, (.len 1 (.t 16))⟩,
  ⟨(some 18), none, (.mv (.c (.lit (.int .i64 0))))⟩]

def f21_6 : List AI :=
  [
  ⟨(some 20), none, (.iaddr 1 (.t 16) (.t 18))⟩,
  ⟨(some 21), none, (.ld none (.t 20))⟩,
  ⟨(some 9), none, (.mv (.t 21))⟩]

def f21_7 : List AI :=
  [
  ⟨(some 22), none, (.mv (.t 7))⟩,
  ⟨(some 23), none, (.mv (.t 0))⟩,
  ⟨(some 24), none, (.mv (.t 9))⟩,
  ⟨(some 25), none, (.iaddr 1 (.t 23) (.t 24))⟩,
  ⟨(some 26), none, (.ld none (.t 25))⟩,
  ⟨(some 27), none, (.rowlit 1 1 [(.lit (.int .i64 0))] [(0, (1, (.t 26)))])⟩,
  ⟨(some 28), none, (.app false 1 8 (.t 22) (.t 27))⟩,
  ⟨(some 7), none, (.mv (.t 28))⟩]

def f21_8 : AC :=
  (.seq (.ops f21_6)
  (.ops f21_7))

def f21_9 : List AI :=
  [
  ⟨(some 29), none, (.bin .add (.t 18) (.c (.lit (.int .i64 1))))⟩,
  ⟨(some 18), none, (.mv (.t 29))⟩]

def f21_10 : AC :=
  (.seq (.ops [
  ⟨(some 19), none, (.bin .lss (.t 18) (.t 17))⟩])
  (.seq (.cond (.t 19) .skip (.exit 0))
  (.seq (.block 1 f21_8)
  (.ops f21_9))))

def f21_11 : AC :=
  (.loop [0, 7, 16, 17, 18] f21_10)

def f21_12 : List AI :=
  [
  ⟨(some 30), none, (.mv (.t 7))⟩,
  ⟨(some 4), none, (.mv (.t 30))⟩,
  ⟨(some 5), none, (.mv (.c (.lit (.int .i64 0))))⟩]

def f21 : AFn := ⟨2, 31, [(.tmp 4), (.tmp 5)],
  (.seq (.ops f21_0)
  (.seq (.seq (.ops f21_1)
  (.seq (.ops f21_2)
  (.cond (.t 14) f21_4 .skip)))
  (.seq (.ops [
  ⟨(some 7), none, (.mv (.c (.lit .nils)))⟩])
  (.seq (.seq (.ops f21_5)
  (.block 0 f21_11))
  (.seq (.ops f21_12)
  .ret)))))⟩

theorem f21_tr : trFn Go.Proofs.Try.prog 21 [[0, 7, 16, 17, 18]] = some f21 := by kernel_rfl

def f22_0 : List AI :=
  [
  ⟨(some 4), none, (.mv (.c (.lit (.int .i64 0))))⟩,
  ⟨(some 5), none, (.mv (.c (.lit (.int .i64 0))))⟩]

def f22_1 : List AI :=
  [
  ⟨(some 7), none, (.mv (.t 0))⟩,
  ⟨(some 8), none, (.nilc (.t 7))⟩,
  ⟨(some 9), none, (.faddr 0 (.t 8))⟩,
  ⟨(some 10), none, (.ld none (.t 9))⟩,
  ⟨(some 11), none, (.len 2 (.t 10))⟩,
  ⟨(some 12), none, (.bin .geq (.t 11) (.c (.lit (.int .i64 64))))⟩]

def f22_2 : List AI :=
  [
  ⟨(some 4), none, (.mv (.c (.lit (.int .i64 0))))⟩,
  ⟨(some 5), none, (.mv (.c (.lit (.int .i64 18))))⟩]

def f22_3 : AC :=
  (.seq (.ops f22_2)
  .ret)

def f22_4 : List AI :=
  [
  ⟨(some 13), none, (.mv (.t 0))⟩,
  ⟨(some 14), none, (.nilc (.t 13))⟩,
  ⟨(some 15), none, (.faddr 0 (.t 14))⟩,
  ⟨(some 16), none, (.ld none (.t 15))⟩,
  ⟨(some 17), none, (.mv (.t 6))⟩,
  ⟨(some 18), none, (.lookup 0 (.lit .nils) (.t 16) (.t 17) false)⟩,
  ⟨(some 19), none, (.eqn .neq 1 (.t 18) (.c (.lit .nils)))⟩]

def f22_5 : List AI :=
  [
  ⟨(some 20), none, (.mv (.t 6))⟩,
  ⟨(some 21), none, (.bin .add (.t 20) (.c (.lit (.int .i64 1))))⟩,
  ⟨(some 6), none, (.mv (.t 21))⟩]

def f22_6 : AC :=
  (.seq (.seq (.ops f22_4)
  (.cond (.t 19) .skip (.exit 0)))
  (.block 1 (.ops f22_5)))

def f22_7 : List DI :=
  [
  ⟨0, ⟨(some 22), none, (.mv (.t 0))⟩, [0], [], [], []⟩,
  ⟨1, ⟨(some 23), none, (.nilc (.t 22))⟩, [22], [0], [], []⟩,
  ⟨2, ⟨(some 24), none, (.faddr 0 (.t 23))⟩, [23], [0, 1], [], []⟩,
  ⟨3, ⟨(some 25), none, (.ld none (.t 24))⟩, [24], [1, 0, 2], [], []⟩,
  ⟨4, ⟨(some 26), none, (.mv (.t 6))⟩, [6], [], [], []⟩,
  ⟨5, ⟨(some 27), none, (.mv (.t 1))⟩, [1], [], [], []⟩,
  ⟨6, ⟨(some 28), none, (.call (.c (.fn (.func 24) [] [])) [(.t 27)])⟩, [27], [5], [], [3]⟩,
  ⟨7, ⟨none, none, (.mapup 0 (.t 25) (.t 26) (.t 28))⟩, [25, 26, 28], [5, 6, 4, 2, 0, 1, 3], [], []⟩]

def f22_8 : List AI :=
  [
  ⟨(some 29), none, (.mv (.t 6))⟩,
  ⟨(some 4), none, (.mv (.t 29))⟩,
  ⟨(some 5), none, (.mv (.c (.lit (.int .i64 0))))⟩]

def f22 : AFn := ⟨2, 30, [(.tmp 4), (.tmp 5)],
  (.seq (.ops f22_0)
  (.seq (.seq (.ops f22_1)
  (.cond (.t 12) f22_3 .skip))
  (.seq (.ops [
  ⟨(some 6), none, (.mv (.c (.lit (.int .i64 1))))⟩])
  (.seq (.block 0 (.loop [0, 1, 6] f22_6))
  (.seq (.draw f22_7)
  (.seq (.ops f22_8)
  .ret))))))⟩

theorem f22_tr : trFn Go.Proofs.Try.prog 22 [[0, 1, 6]] = some f22 := by kernel_rfl

def f23_0 : List AI :=
  [
  ⟨(some 3), none, (.mv (.t 0))⟩,
  ⟨(some 4), none, (.eqn .neq 5 (.t 3) (.c (.lit .nilp)))⟩,
  ⟨(some 5), none, (.mv (.t 4))⟩,
  ⟨(some 6), (some (5, true)), (.mv (.t 0))⟩,
  ⟨(some 7), (some (5, true)), (.nilc (.t 6))⟩,
  ⟨(some 8), (some (5, true)), (.faddr 0 (.t 7))⟩,
  ⟨(some 9), (some (5, true)), (.ld none (.t 8))⟩,
  ⟨(some 10), (some (5, true)), (.eqn .neq 2 (.t 9) (.c (.lit .nilm)))⟩,
  ⟨(some 11), none, (.pick (.t 5) (.t 10) (.c (.lit (.bool false))))⟩,
  ⟨(some 2), none, (.mv (.t 11))⟩]

def f23 : AFn := ⟨1, 12, [(.tmp 2)],
  (.seq (.ops [
  ⟨(some 2), none, (.mv (.c (.lit (.bool false))))⟩])
  (.seq (.ops f23_0)
  .ret))⟩

theorem f23_tr : trFn Go.Proofs.Try.prog 23 [] = some f23 := by kernel_rfl

def f24_0 : List AI :=
  [
  ⟨(some 3), none, (.mv (.t 0))⟩,
  ⟨(some 4), none, (.eqn .eql 1 (.t 3) (.c (.lit .nils)))⟩]

def f24_1 : AC :=
  (.seq (.ops [
  ⟨(some 2), none, (.mv (.c (.lit .nils)))⟩])
  .ret)

def f24_2 : List AI :=
  [
  ⟨(some 5), none, (.rowlit 0 1 [] [])⟩,
  ⟨(some 6), none, (.mv (.t 0))⟩,
  ⟨(some 7), none, (.app false 1 8 (.t 5) (.t 6))⟩,
  ⟨(some 2), none, (.mv (.t 7))⟩]

def f24 : AFn := ⟨1, 8, [(.tmp 2)],
  (.seq (.ops [
  ⟨(some 2), none, (.mv (.c (.lit .nils)))⟩])
  (.seq (.seq (.ops f24_0)
  (.cond (.t 4) f24_1 .skip))
  (.seq (.ops f24_2)
  .ret)))⟩

theorem f24_tr : trFn Go.Proofs.Try.prog 24 [] = some f24 := by kernel_rfl

def f25_0 : List AI :=
  [
  ⟨(some 6), none, (.mv (.t 0))⟩,
  ⟨(some 7), none, (.call (.c (.fn (.func 34) [] [])) [(.t 6)])⟩,
  ⟨(some 5), none, (.mv (.t 7))⟩]

def f25_1 : List AI :=
  [
  ⟨(some 8), none, (.mv (.t 5))⟩,
  ⟨(some 9), none, (.bin .neq (.t 8) (.c (.lit (.int .i64 0))))⟩]

def f25_2 : List AI :=
  [
  ⟨(some 10), none, (.mv (.t 5))⟩,
  ⟨(some 4), none, (.mv (.t 10))⟩]

def f25_3 : AC :=
  (.seq (.ops f25_2)
  .ret)

def f25_4 : List AI :=
  [
  ⟨(some 11), none, (.mv (.t 1))⟩,
  ⟨(some 12), none, (.call (.c (.fn (.func 34) [] [])) [(.t 11)])⟩,
  ⟨(some 4), none, (.mv (.t 12))⟩]

def f25 : AFn := ⟨2, 13, [(.tmp 4)],
  (.seq (.ops [
  ⟨(some 4), none, (.mv (.c (.lit (.int .i64 0))))⟩])
  (.seq (.seq (.ops f25_0)
  (.seq (.ops f25_1)
  (.cond (.t 9) f25_3 .skip)))
  (.seq (.ops f25_4)
  .ret)))⟩

theorem f25_tr : trFn Go.Proofs.Try.prog 25 [] = some f25 := by kernel_rfl

def f26_0 : List AI :=
  [
  ⟨(some 6), none, (.mv (.t 0))⟩,
  ⟨(some 7), none, (.len 1 (.t 6))⟩,
  ⟨(some 8), none, (.mv (.c (.lit (.int .i64 0))))⟩]

def f26_1 : List AI :=
  [
  ⟨(some 10), none, (.mv (.t 8))⟩,
  ⟨(some 5), none, (.mv (.t 10))⟩]

def f26_2 : List AI :=
  [
  ⟨(some 11), none, (.mv (.t 1))⟩,
  ⟨(some 12), none, (.mv (.t 0))⟩,
  ⟨(some 13), none, (.mv (.t 5))⟩,
  ⟨(some 14), none, (.iaddr 1 (.t 12) (.t 13))⟩,
  ⟨(some 15), none, (.ld none (.t 14))⟩,
  ⟨(some 16), none, (.bin .eql (.t 11) (.t 15))⟩]

def f26_3 : List AI :=
  [
  ⟨(some 17), none, (.mv (.t 5))⟩,
  ⟨(some 4), none, (.mv (.t 17))⟩]

def f26_4 : AC :=
  (.seq (.ops f26_3)
  .ret)

def f26_5 : AC :=
  (.seq (.ops f26_1)
  (.seq (.ops f26_2)
  (.cond (.t 16) f26_4 .skip)))

def f26_6 : List AI :=
  [
  ⟨(some 18), none, (.bin .add (.t 8) (.c (.lit (.int .i64 1))))⟩,
  ⟨(some 8), none, (.mv (.t 18))⟩]

def f26_7 : AC :=
  (.seq (.ops [
  ⟨(some 9), none, (.bin .lss (.t 8) (.t 7))⟩])
  (.seq (.cond (.t 9) .skip (.exit 0))
  (.seq (.block 1 f26_5)
  (.ops f26_6))))

def f26_8 : AC :=
  (.loop [0, 1, 7, 8] f26_7)

def f26 : AFn := ⟨2, 19, [(.tmp 4)],
  (.seq (.ops [
  ⟨(some 4), none, (.mv (.c (.lit (.int .i64 0))))⟩])
  (.seq (.seq (.ops f26_0)
  (.block 0 f26_8))
  (.seq (.ops [
  ⟨(some 4), none, (.mv (.c (.lit (.int .i64 (-1)))))⟩])
  .ret)))⟩

theorem f26_tr : trFn Go.Proofs.Try.prog 26 [[0, 1, 7, 8]] = some f26 := by kernel_rfl

def f27_0 : List AI :=
  [
  ⟨(some 6), none, (.mv (.t 0))⟩,
  ⟨(some 7), none, (.len 1 (.t 6))⟩,
  ⟨(some 8), none, (.mv (.c (.lit (.int .i64 0))))⟩]

def f27_1 : List AI :=
  [
  ⟨(some 10), none, (.mv (.t 8))⟩,
  ⟨(some 5), none, (.mv (.t 10))⟩]

def f27_2 : List AI :=
  [
  ⟨(some 11), none, (.mv (.t 1))⟩,
  ⟨(some 12), none, (.mv (.t 0))⟩,
  ⟨(some 13), none, (.mv (.t 5))⟩,
  ⟨(some 14), none, (.iaddr 1 (.t 12) (.t 13))⟩,
  ⟨(some 15), none, (.ld none (.t 14))⟩,
  ⟨(some 16), none, (.call (.t 11) [(.t 15)])⟩]

def f27_3 : List AI :=
  [
  ⟨(some 17), none, (.mv (.t 5))⟩,
  ⟨(some 4), none, (.mv (.t 17))⟩]

def f27_4 : AC :=
  (.seq (.ops f27_3)
  .ret)

def f27_5 : AC :=
  (.seq (.ops f27_1)
  (.seq (.ops f27_2)
  (.cond (.t 16) f27_4 .skip)))

def f27_6 : List AI :=
  [
  ⟨(some 18), none, (.bin .add (.t 8) (.c (.lit (.int .i64 1))))⟩,
  ⟨(some 8), none, (.mv (.t 18))⟩]

def f27_7 : AC :=
  (.seq (.ops [
  ⟨(some 9), none, (.bin .lss (.t 8) (.t 7))⟩])
  (.seq (.cond (.t 9) .skip (.exit 0))
  (.seq (.block 1 f27_5)
  (.ops f27_6))))

def f27_8 : AC :=
  (.loop [0, 1, 7, 8] f27_7)

def f27 : AFn := ⟨2, 19, [(.tmp 4)],
  (.seq (.ops [
  ⟨(some 4), none, (.mv (.c (.lit (.int .i64 0))))⟩])
  (.seq (.seq (.ops f27_0)
  (.block 0 f27_8))
  (.seq (.ops [
  ⟨(some 4), none, (.mv (.c (.lit (.int .i64 (-1)))))⟩])
  .ret)))⟩

theorem f27_tr : trFn Go.Proofs.Try.prog 27 [[0, 1, 7, 8]] = some f27 := by kernel_rfl

def f28_0 : List AI :=
  [
  ⟨(some 4), none, (.mv (.c (.lit (.int .u64 0))))⟩,
  ⟨(some 5), none, (.mv (.c (.lit (.int .u64 0))))⟩]

def f28_1 : List AI :=
  [
  ⟨(some 11), none, (.mv (.t 0))⟩,
  ⟨(some 12), none, (.conv .u32 (.t 11))⟩,
  ⟨(some 13), none, (.mv (.t 1))⟩,
  ⟨(some 14), none, (.conv .u32 (.t 13))⟩,
  ⟨(some 15), none, (.call (.c (.fn (.func 35) [] [])) [(.t 12), (.t 14)])⟩,
  ⟨(some 10), none, (.mv (.t 15))⟩,
  ⟨(some 16), none, (.ext (.t 10) 0)⟩,
  ⟨(some 17), none, (.ext (.t 10) 1)⟩,
  ⟨(some 6), none, (.mv (.t 16))⟩,
  ⟨(some 7), none, (.mv (.t 17))⟩]

def f28_2 : List AI :=
  [
  ⟨(some 18), none, (.mv (.t 6))⟩,
  ⟨(some 19), none, (.conv .u64 (.t 18))⟩,
  ⟨(some 20), none, (.mv (.t 7))⟩,
  ⟨(some 21), none, (.conv .u64 (.t 20))⟩,
  ⟨(some 4), none, (.mv (.t 19))⟩,
  ⟨(some 5), none, (.mv (.t 21))⟩]

def f28_3 : AC :=
  (.seq (.ops f28_1)
  (.seq (.ops f28_2)
  .ret))

def f28_4 : List AI :=
  [
  ⟨(some 23), none, (.mv (.t 0))⟩,
  ⟨(some 24), none, (.mv (.t 1))⟩,
  ⟨(some 25), none, (.call (.c (.fn (.func 36) [] [])) [(.t 23), (.t 24)])⟩,
  ⟨(some 22), none, (.mv (.t 25))⟩,
  ⟨(some 26), none, (.ext (.t 22) 0)⟩,
  ⟨(some 27), none, (.ext (.t 22) 1)⟩,
  ⟨(some 8), none, (.mv (.t 26))⟩,
  ⟨(some 9), none, (.mv (.t 27))⟩]

def f28_5 : List AI :=
  [
  ⟨(some 28), none, (.mv (.t 8))⟩,
  ⟨(some 29), none, (.mv (.t 9))⟩,
  ⟨(some 4), none, (.mv (.t 28))⟩,
  ⟨(some 5), none, (.mv (.t 29))⟩]

def f28 : AFn := ⟨2, 30, [(.tmp 4), (.tmp 5)],
  (.seq (.ops f28_0)
  (.seq (.cond (.c (.lit (.bool false))) f28_3 .skip)
  (.seq (.ops f28_4)
  (.seq (.ops f28_5)
  .ret))))⟩

theorem f28_tr : trFn Go.Proofs.Try.prog 28 [] = some f28 := by kernel_rfl

def f32_0 : List AI :=
  [
  ⟨(some 10), none, (.mv (.t 6))⟩,
  ⟨(some 7), none, (.mv (.c (.lit (.int .i64 0))))⟩,
  ⟨(some 8), none, (.mv (.t 10))⟩]

def f32_1 : List AI :=
  [
  ⟨(some 11), none, (.mv (.t 8))⟩,
  ⟨(some 12), none, (.mv (.t 1))⟩,
  ⟨(some 13), none, (.bin .leq (.t 11) (.t 12))⟩]

def f32_2 : List AI :=
  [
  ⟨(some 14), none, (.mv (.t 0))⟩,
  ⟨(some 15), none, (.mv (.t 7))⟩,
  ⟨(some 16), none, (.mv (.t 8))⟩,
  ⟨(some 17), none, (.mv (.t 2))⟩,
  ⟨(some 18), none, (.call (.c (.fn (.func 40) [] [])) [(.t 14), (.t 15), (.t 16), (.t 17)])⟩]

def f32_3 : List AI :=
  [
  ⟨(some 19), none, (.mv (.t 8))⟩,
  ⟨(some 7), none, (.mv (.t 19))⟩]

def f32_4 : List AI :=
  [
  ⟨(some 20), none, (.mv (.t 8))⟩,
  ⟨(some 21), none, (.mv (.t 6))⟩,
  ⟨(some 22), none, (.bin .add (.t 20) (.t 21))⟩,
  ⟨(some 8), none, (.mv (.t 22))⟩]

def f32_5 : AC :=
  (.seq (.ops f32_2)
  (.seq (.ops f32_3)
  (.ops f32_4)))

def f32_6 : AC :=
  (.seq (.seq (.ops f32_1)
  (.cond (.t 13) .skip (.exit 0)))
  (.block 1 f32_5))

def f32_7 : AC :=
  (.loop [0, 1, 2, 6, 7, 8] f32_6)

def f32_8 : List AI :=
  [
  ⟨(some 23), none, (.mv (.t 0))⟩,
  ⟨(some 24), none, (.mv (.t 7))⟩,
  ⟨(some 25), none, (.mv (.t 1))⟩,
  ⟨(some 26), none, (.mv (.t 2))⟩,
  ⟨(some 27), none, (.call (.c (.fn (.func 40) [] [])) [(.t 23), (.t 24), (.t 25), (.t 26)])⟩]

def f32_9 : List AI :=
  [
  ⟨(some 28), none, (.mv (.t 6))⟩,
  ⟨(some 29), none, (.mv (.t 1))⟩,
  ⟨(some 30), none, (.bin .lss (.t 28) (.t 29))⟩]

def f32_10 : List AI :=
  [
  ⟨(some 31), none, (.mv (.t 6))⟩,
  ⟨(some 32), none, (.bin .mul (.c (.lit (.int .i64 2))) (.t 31))⟩,
  ⟨(some 7), none, (.mv (.c (.lit (.int .i64 0))))⟩,
  ⟨(some 8), none, (.mv (.t 32))⟩]

def f32_11 : List AI :=
  [
  ⟨(some 33), none, (.mv (.t 8))⟩,
  ⟨(some 34), none, (.mv (.t 1))⟩,
  ⟨(some 35), none, (.bin .leq (.t 33) (.t 34))⟩]

def f32_12 : List AI :=
  [
  ⟨(some 36), none, (.mv (.t 0))⟩,
  ⟨(some 37), none, (.mv (.t 7))⟩,
  ⟨(some 38), none, (.mv (.t 7))⟩,
  ⟨(some 39), none, (.mv (.t 6))⟩,
  ⟨(some 40), none, (.bin .add (.t 38) (.t 39))⟩,
  ⟨(some 41), none, (.mv (.t 8))⟩,
  ⟨(some 42), none, (.mv (.t 2))⟩,
  ⟨(some 43), none, (.call (.c (.fn (.func 41) [] [])) [(.t 36), (.t 37), (.t 40), (.t 41), (.t 42)])⟩]

def f32_13 : List AI :=
  [
  ⟨(some 44), none, (.mv (.t 8))⟩,
  ⟨(some 7), none, (.mv (.t 44))⟩]

def f32_14 : List AI :=
  [
  ⟨(some 45), none, (.mv (.t 8))⟩,
  ⟨(some 46), none, (.mv (.t 6))⟩,
  ⟨(some 47), none, (.bin .mul (.c (.lit (.int .i64 2))) (.t 46))⟩,
  ⟨(some 48), none, (.bin .add (.t 45) (.t 47))⟩,
  ⟨(some 8), none, (.mv (.t 48))⟩]

def f32_15 : AC :=
  (.seq (.ops f32_12)
  (.seq (.ops f32_13)
  (.ops f32_14)))

def f32_16 : AC :=
  (.seq (.seq (.ops f32_11)
  (.cond (.t 35) .skip (.exit 4)))
  (.block 5 f32_15))

def f32_17 : AC :=
  (.loop [0, 1, 2, 6, 7, 8] f32_16)

def f32_18 : List AI :=
  [
  ⟨(some 49), none, (.mv (.t 7))⟩,
  ⟨(some 50), none, (.mv (.t 6))⟩,
  ⟨(some 51), none, (.bin .add (.t 49) (.t 50))⟩,
  ⟨(some 9), none, (.mv (.t 51))⟩]

def f32_19 : List AI :=
  [
  ⟨(some 52), none, (.mv (.t 9))⟩,
  ⟨(some 53), none, (.mv (.t 1))⟩,
  ⟨(some 54), none, (.bin .lss (.t 52) (.t 53))⟩]

def f32_20 : List AI :=
  [
  ⟨(some 55), none, (.mv (.t 0))⟩,
  ⟨(some 56), none, (.mv (.t 7))⟩,
  ⟨(some 57), none, (.mv (.t 9))⟩,
  ⟨(some 58), none, (.mv (.t 1))⟩,
  ⟨(some 59), none, (.mv (.t 2))⟩,
  ⟨(some 60), none, (.call (.c (.fn (.func 41) [] [])) [(.t 55), (.t 56), (.t 57), (.t 58), (.t 59)])⟩]

def f32_21 : List AI :=
  [
  ⟨(some 61), none, (.mv (.t 6))⟩,
  ⟨(some 62), none, (.bin .mul (.t 61) (.c (.lit (.int .i64 2))))⟩,
  ⟨(some 6), none, (.mv (.t 62))⟩]

def f32_22 : AC :=
  (.seq (.ops f32_10)
  (.seq (.block 4 f32_17)
  (.seq (.seq (.ops f32_18)
  (.seq (.ops f32_19)
  (.cond (.t 54) (.ops f32_20) .skip)))
  (.ops f32_21))))

def f32_23 : AC :=
  (.seq (.seq (.ops f32_9)
  (.cond (.t 30) .skip (.exit 2)))
  (.block 3 f32_22))

def f32_24 : AC :=
  (.loop [0, 1, 2, 6] f32_23)

def f32 : AFn := ⟨3, 63, [],
  (.seq (.ops [
  ⟨(some 6), none, (.mv (.c (.lit (.int .i64 20))))⟩])
  (.seq (.ops f32_0)
  (.seq (.block 0 f32_7)
  (.seq (.ops f32_8)
  (.block 2 f32_24)))))⟩

theorem f32_tr : trFn Go.Proofs.Try.prog 32 [[0, 1, 2, 6, 7, 8], [0, 1, 2, 6], [0, 1, 2, 6, 7, 8]] = some f32 := by kernel_rfl

def f33_0 : List AI :=
  [
  ⟨(some 6), none, (.mv (.t 0))⟩,
  ⟨(some 7), none, (.call (.c (.fn (.func 34) [] [])) [(.t 6)])⟩,
  ⟨(some 5), none, (.mv (.t 7))⟩]

def f33_1 : List AI :=
  [
  ⟨(some 8), none, (.mv (.t 5))⟩,
  ⟨(some 9), none, (.bin .neq (.t 8) (.c (.lit (.int .i64 0))))⟩]

def f33_2 : List AI :=
  [
  ⟨(some 10), none, (.mv (.t 5))⟩,
  ⟨(some 4), none, (.mv (.t 10))⟩]

def f33_3 : AC :=
  (.seq (.ops f33_2)
  .ret)

def f33_4 : List AI :=
  [
  ⟨(some 11), none, (.mv (.t 1))⟩,
  ⟨(some 12), none, (.mv (.t 0))⟩,
  ⟨(some 13), none, (.len 1 (.t 12))⟩,
  ⟨(some 14), none, (.call (.c (.fn (.func 42) [] [])) [(.t 11), (.t 13)])⟩,
  ⟨(some 4), none, (.mv (.t 14))⟩]

def f33 : AFn := ⟨2, 15, [(.tmp 4)],
  (.seq (.ops [
  ⟨(some 4), none, (.mv (.c (.lit (.int .i64 0))))⟩])
  (.seq (.seq (.ops f33_0)
  (.seq (.ops f33_1)
  (.cond (.t 9) f33_3 .skip)))
  (.seq (.ops f33_4)
  .ret)))⟩

theorem f33_tr : trFn Go.Proofs.Try.prog 33 [] = some f33 := by kernel_rfl

def f34_0 : List AI :=
  [
  ⟨(some 3), none, (.mv (.t 0))⟩,
  ⟨(some 4), none, (.len 1 (.t 3))⟩,
  ⟨(some 5), none, (.bin .gtr (.t 4) (.c (.lit (.int .i64 64))))⟩]

def f34_1 : AC :=
  (.seq (.ops [
  ⟨(some 2), none, (.mv (.c (.lit (.int .i64 9))))⟩])
  .ret)

def f34_2 : List AI :=
  [
  ⟨(some 6), none, (.mv (.t 0))⟩,
  ⟨(some 7), none, (.call (.c (.fn (.func 42) [] [])) [(.t 6), (.c (.lit (.int .i64 64)))])⟩,
  ⟨(some 2), none, (.mv (.t 7))⟩]

def f34 : AFn := ⟨1, 8, [(.tmp 2)],
  (.seq (.ops [
  ⟨(some 2), none, (.mv (.c (.lit (.int .i64 0))))⟩])
  (.seq (.seq (.ops f34_0)
  (.cond (.t 5) f34_1 .skip))
  (.seq (.ops f34_2)
  .ret)))⟩

theorem f34_tr : trFn Go.Proofs.Try.prog 34 [] = some f34 := by kernel_rfl

def f35_0 : List AI :=
  [
  ⟨(some 4), none, (.mv (.c (.lit (.int .u32 0))))⟩,
  ⟨(some 5), none, (.mv (.c (.lit (.int .u32 0))))⟩]

def f35_1 : List AI :=
  [
  ⟨(some 7), none, (.mv (.t 0))⟩,
  ⟨(some 8), none, (.conv .u64 (.t 7))⟩,
  ⟨(some 9), none, (.mv (.t 1))⟩,
  ⟨(some 10), none, (.conv .u64 (.t 9))⟩,
  ⟨(some 11), none, (.bin .mul (.t 8) (.t 10))⟩,
  ⟨(some 6), none, (.mv (.t 11))⟩]

def f35_2 : List AI :=
  [
  ⟨(some 12), none, (.mv (.t 6))⟩,
  ⟨(some 13), none, (.bin .shr (.t 12) (.c (.lit (.int .u64 32))))⟩,
  ⟨(some 14), none, (.conv .u32 (.t 13))⟩,
  ⟨(some 15), none, (.mv (.t 6))⟩,
  ⟨(some 16), none, (.conv .u32 (.t 15))⟩,
  ⟨(some 4), none, (.mv (.t 14))⟩,
  ⟨(some 5), none, (.mv (.t 16))⟩]

def f35 : AFn := ⟨2, 17, [(.tmp 4), (.tmp 5)],
  (.seq (.ops f35_0)
  (.seq (.ops f35_1)
  (.seq (.ops f35_2)
  .ret)))⟩

theorem f35_tr : trFn Go.Proofs.Try.prog 35 [] = some f35 := by kernel_rfl

def f36_0 : List AI :=
  [
  ⟨(some 4), none, (.mv (.c (.lit (.int .u64 0))))⟩,
  ⟨(some 5), none, (.mv (.c (.lit (.int .u64 0))))⟩]

def f36_1 : List AI :=
  [
  ⟨(some 14), none, (.mv (.t 0))⟩,
  ⟨(some 15), none, (.bin .and (.t 14) (.c (.lit (.int .u64 4294967295))))⟩,
  ⟨(some 6), none, (.mv (.t 15))⟩]

def f36_2 : List AI :=
  [
  ⟨(some 16), none, (.mv (.t 0))⟩,
  ⟨(some 17), none, (.bin .shr (.t 16) (.c (.lit (.int .u64 32))))⟩,
  ⟨(some 7), none, (.mv (.t 17))⟩]

def f36_3 : List AI :=
  [
  ⟨(some 18), none, (.mv (.t 1))⟩,
  ⟨(some 19), none, (.bin .and (.t 18) (.c (.lit (.int .u64 4294967295))))⟩,
  ⟨(some 8), none, (.mv (.t 19))⟩]

def f36_4 : List AI :=
  [
  ⟨(some 20), none, (.mv (.t 1))⟩,
  ⟨(some 21), none, (.bin .shr (.t 20) (.c (.lit (.int .u64 32))))⟩,
  ⟨(some 9), none, (.mv (.t 21))⟩]

def f36_5 : List AI :=
  [
  ⟨(some 22), none, (.mv (.t 6))⟩,
  ⟨(some 23), none, (.mv (.t 8))⟩,
  ⟨(some 24), none, (.bin .mul (.t 22) (.t 23))⟩,
  ⟨(some 10), none, (.mv (.t 24))⟩]

def f36_6 : List AI :=
  [
  ⟨(some 25), none, (.mv (.t 7))⟩,
  ⟨(some 26), none, (.mv (.t 8))⟩,
  ⟨(some 27), none, (.bin .mul (.t 25) (.t 26))⟩,
  ⟨(some 28), none, (.mv (.t 10))⟩,
  ⟨(some 29), none, (.bin .shr (.t 28) (.c (.lit (.int .u64 32))))⟩,
  ⟨(some 30), none, (.bin .add (.t 27) (.t 29))⟩,
  ⟨(some 11), none, (.mv (.t 30))⟩]

def f36_7 : List AI :=
  [
  ⟨(some 31), none, (.mv (.t 11))⟩,
  ⟨(some 32), none, (.bin .and (.t 31) (.c (.lit (.int .u64 4294967295))))⟩,
  ⟨(some 12), none, (.mv (.t 32))⟩]

def f36_8 : List AI :=
  [
  ⟨(some 33), none, (.mv (.t 11))⟩,
  ⟨(some 34), none, (.bin .shr (.t 33) (.c (.lit (.int .u64 32))))⟩,
  ⟨(some 13), none, (.mv (.t 34))⟩]

def f36_9 : List AI :=
  [
  ⟨(some 35), none, (.mv (.t 12))⟩,
  ⟨(some 36), none, (.mv (.t 6))⟩,
  ⟨(some 37), none, (.mv (.t 9))⟩,
  ⟨(some 38), none, (.bin .mul (.t 36) (.t 37))⟩,
  ⟨(some 39), none, (.bin .add (.t 35) (.t 38))⟩,
  ⟨(some 12), none, (.mv (.t 39))⟩]

def f36_10 : List AI :=
  [
  ⟨(some 40), none, (.mv (.t 7))⟩,
  ⟨(some 41), none, (.mv (.t 9))⟩,
  ⟨(some 42), none, (.bin .mul (.t 40) (.t 41))⟩,
  ⟨(some 43), none, (.mv (.t 13))⟩,
  ⟨(some 44), none, (.bin .add (.t 42) (.t 43))⟩,
  ⟨(some 45), none, (.mv (.t 12))⟩,
  ⟨(some 46), none, (.bin .shr (.t 45) (.c (.lit (.int .u64 32))))⟩,
  ⟨(some 47), none, (.bin .add (.t 44) (.t 46))⟩,
  ⟨(some 4), none, (.mv (.t 47))⟩]

def f36_11 : List AI :=
  [
  ⟨(some 48), none, (.mv (.t 0))⟩,
  ⟨(some 49), none, (.mv (.t 1))⟩,
  ⟨(some 50), none, (.bin .mul (.t 48) (.t 49))⟩,
  ⟨(some 5), none, (.mv (.t 50))⟩]

def f36 : AFn := ⟨2, 51, [(.tmp 4), (.tmp 5)],
  (.seq (.ops f36_0)
  (.seq (.ops f36_1)
  (.seq (.ops f36_2)
  (.seq (.ops f36_3)
  (.seq (.ops f36_4)
  (.seq (.ops f36_5)
  (.seq (.ops f36_6)
  (.seq (.ops f36_7)
  (.seq (.ops f36_8)
  (.seq (.ops f36_9)
  (.seq (.ops f36_10)
  (.seq (.ops f36_11)
  .ret))))))))))))⟩

theorem f36_tr : trFn Go.Proofs.Try.prog 36 [] = some f36 := by kernel_rfl

def f40_0 : List AI :=
  [
  ⟨(some 10), none, (.mv (.t 1))⟩,
  ⟨(some 11), none, (.bin .add (.t 10) (.c (.lit (.int .i64 1))))⟩,
  ⟨(some 8), none, (.mv (.t 11))⟩]

def f40_1 : List AI :=
  [
  ⟨(some 12), none, (.mv (.t 8))⟩,
  ⟨(some 13), none, (.mv (.t 2))⟩,
  ⟨(some 14), none, (.bin .lss (.t 12) (.t 13))⟩]

def f40_2 : List AI :=
  [
  ⟨(some 17), none, (.mv (.t 8))⟩,
  ⟨(some 9), none, (.mv (.t 17))⟩]

def f40_3 : List DI :=
  [
  ⟨0, ⟨(some 18), none, (.mv (.t 9))⟩, [9], [], [], []⟩,
  ⟨1, ⟨(some 19), none, (.mv (.t 1))⟩, [1], [], [], []⟩,
  ⟨2, ⟨(some 20), none, (.bin .gtr (.t 18) (.t 19))⟩, [18, 19], [1, 0], [], []⟩,
  ⟨3, ⟨(some 21), none, (.mv (.t 20))⟩, [20], [0, 1, 2], [], []⟩,
  ⟨4, ⟨(some 22), (some (21, true)), (.mv (.t 3))⟩, [21, 3], [2, 1, 0, 3], [], []⟩,
  ⟨5, ⟨(some 23), (some (21, true)), (.mv (.t 0))⟩, [21, 0], [2, 1, 0, 3], [], []⟩,
  ⟨6, ⟨(some 24), (some (21, true)), (.mv (.t 9))⟩, [21, 9], [2, 1, 0, 3], [], []⟩,
  ⟨7, ⟨(some 25), (some (21, true)), (.iaddr 1 (.t 23) (.t 24))⟩, [21, 23, 24], [6, 3, 0, 1, 2, 5], [], []⟩,
  ⟨8, ⟨(some 26), (some (21, true)), (.ld none (.t 25))⟩, [21, 25], [5, 2, 1, 0, 3, 6, 7], [], []⟩,
  ⟨9, ⟨(some 27), (some (21, true)), (.mv (.t 0))⟩, [21, 0], [2, 1, 0, 3], [], []⟩,
  ⟨10, ⟨(some 28), (some (21, true)), (.mv (.t 9))⟩, [21, 9], [2, 1, 0, 3], [], []⟩,
  ⟨11, ⟨(some 29), (some (21, true)), (.bin .sub (.t 28) (.c (.lit (.int .i64 1))))⟩, [21, 28], [3, 0, 1, 2, 10], [], []⟩,
  ⟨12, ⟨(some 30), (some (21, true)), (.iaddr 1 (.t 27) (.t 29))⟩, [21, 27, 29], [10, 11, 3, 0, 1, 2, 9], [], []⟩,
  ⟨13, ⟨(some 31), (some (21, true)), (.ld none (.t 30))⟩, [21, 30], [9, 2, 1, 0, 3, 11, 10, 12], [], []⟩,
  ⟨14, ⟨(some 32), (some (21, true)), (.call (.t 22) [(.t 26), (.t 31)])⟩, [21, 22, 26, 31], [12, 10, 11, 9, 13, 7, 6, 5, 8, 3, 0, 1, 2, 4], [], []⟩,
  ⟨15, ⟨(some 33), (some (21, true)), (.bin .lss (.t 32) (.c (.lit (.int .i64 0))))⟩, [21, 32], [4, 2, 1, 0, 3, 8, 5, 6, 7, 13, 9, 11, 10, 12, 14], [], []⟩,
  ⟨16, ⟨(some 34), none, (.pick (.t 21) (.t 33) (.c (.lit (.bool false))))⟩, [21, 33], [14, 12, 10, 11, 9, 13, 7, 6, 5, 8, 4, 15, 2, 1, 0, 3], [], []⟩]

def f40_4 : List DI :=
  [
  ⟨0, ⟨(some 37), none, (.mv (.t 0))⟩, [0], [], [], []⟩,
  ⟨1, ⟨(some 38), none, (.mv (.t 9))⟩, [9], [], [], []⟩,
  ⟨2, ⟨(some 39), none, (.mv (.t 0))⟩, [0], [], [], []⟩,
  ⟨3, ⟨(some 40), none, (.mv (.t 9))⟩, [9], [], [], []⟩,
  ⟨4, ⟨(some 41), none, (.bin .sub (.t 40) (.c (.lit (.int .i64 1))))⟩, [40], [3], [], []⟩,
  ⟨5, ⟨(some 42), none, (.mv (.t 0))⟩, [0], [], [], []⟩,
  ⟨6, ⟨(some 43), none, (.mv (.t 9))⟩, [9], [], [], []⟩,
  ⟨7, ⟨(some 44), none, (.bin .sub (.t 43) (.c (.lit (.int .i64 1))))⟩, [43], [6], [], []⟩,
  ⟨8, ⟨(some 45), none, (.iaddr 1 (.t 42) (.t 44))⟩, [42, 44], [6, 7, 5], [], []⟩,
  ⟨9, ⟨(some 46), none, (.ld none (.t 45))⟩, [45], [5, 7, 6, 8], [], []⟩,
  ⟨10, ⟨(some 47), none, (.mv (.t 0))⟩, [0], [], [], []⟩,
  ⟨11, ⟨(some 48), none, (.mv (.t 9))⟩, [9], [], [], []⟩,
  ⟨12, ⟨(some 49), none, (.iaddr 1 (.t 47) (.t 48))⟩, [47, 48], [11, 10], [], []⟩,
  ⟨13, ⟨(some 50), none, (.ld none (.t 49))⟩, [49], [10, 11, 12], [], []⟩,
  ⟨14, ⟨(some 51), none, (.iaddr 1 (.t 37) (.t 38))⟩, [37, 38], [12, 11, 10, 13, 9, 8, 7, 6, 5, 1, 0], [], []⟩,
  ⟨15, ⟨none, none, (.st 1 (.t 51) (.t 46))⟩, [51, 46], [0, 1, 5, 6, 7, 8, 9, 13, 10, 11, 12, 14], [], []⟩,
  ⟨16, ⟨(some 52), none, (.iaddr 1 (.t 39) (.t 41))⟩, [39, 41], [15, 14, 13, 12, 11, 10, 9, 8, 7, 6, 5, 1, 0, 3, 4, 2], [], []⟩,
  ⟨17, ⟨none, none, (.st 1 (.t 52) (.t 50))⟩, [52, 50], [2, 4, 3, 0, 1, 5, 6, 7, 8, 9, 10, 11, 12, 13, 14, 15, 16], [], []⟩]

def f40_5 : List AI :=
  [
  ⟨(some 35), none, (.mv (.t 9))⟩,
  ⟨(some 36), none, (.bin .sub (.t 35) (.c (.lit (.int .i64 1))))⟩,
  ⟨(some 9), none, (.mv (.t 36))⟩]

def f40_6 : AC :=
  (.seq (.seq (.draw f40_3)
  (.cond (.t 34) .skip (.exit 2)))
  (.seq (.block 3 (.draw f40_4))
  (.ops f40_5)))

def f40_7 : AC :=
  (.loop [0, 1, 2, 3, 8, 9] f40_6)

def f40_8 : AC :=
  (.seq (.ops f40_2)
  (.block 2 f40_7))

def f40_9 : List AI :=
  [
  ⟨(some 15), none, (.mv (.t 8))⟩,
  ⟨(some 16), none, (.bin .add (.t 15) (.c (.lit (.int .i64 1))))⟩,
  ⟨(some 8), none, (.mv (.t 16))⟩]

def f40_10 : AC :=
  (.seq (.seq (.ops f40_1)
  (.cond (.t 14) .skip (.exit 0)))
  (.seq (.block 1 f40_8)
  (.ops f40_9)))

def f40_11 : AC :=
  (.loop [0, 1, 2, 3, 8] f40_10)

def f40 : AFn := ⟨4, 53, [],
  (.seq (.ops f40_0)
  (.block 0 f40_11))⟩

theorem f40_tr : trFn Go.Proofs.Try.prog 40 [[0, 1, 2, 3, 8], [0, 1, 2, 3, 8, 9]] = some f40 := by kernel_rfl

def f41_0 : List AI :=
  [
  ⟨(some 25), none, (.mv (.t 2))⟩,
  ⟨(some 26), none, (.mv (.t 1))⟩,
  ⟨(some 27), none, (.bin .sub (.t 25) (.t 26))⟩,
  ⟨(some 28), none, (.bin .eql (.t 27) (.c (.lit (.int .i64 1))))⟩]

def f41_1 : List AI :=
  [
  ⟨(some 29), none, (.mv (.t 2))⟩,
  ⟨(some 10), none, (.mv (.t 29))⟩]

def f41_2 : List AI :=
  [
  ⟨(some 30), none, (.mv (.t 3))⟩,
  ⟨(some 11), none, (.mv (.t 30))⟩]

def f41_3 : List AI :=
  [
  ⟨(some 31), none, (.mv (.t 10))⟩,
  ⟨(some 32), none, (.mv (.t 11))⟩,
  ⟨(some 33), none, (.bin .lss (.t 31) (.t 32))⟩]

def f41_4 : List AI :=
  [
  ⟨(some 34), none, (.mv (.t 10))⟩,
  ⟨(some 35), none, (.mv (.t 11))⟩,
  ⟨(some 36), none, (.bin .add (.t 34) (.t 35))⟩,
  ⟨(some 37), none, (.conv .u64 (.t 36))⟩,
  ⟨(some 38), none, (.bin .shr (.t 37) (.c (.lit (.int .u64 1))))⟩,
  ⟨(some 39), none, (.conv .i64 (.t 38))⟩,
  ⟨(some 12), none, (.mv (.t 39))⟩]

def f41_5 : List DI :=
  [
  ⟨0, ⟨(some 40), none, (.mv (.t 4))⟩, [4], [], [], []⟩,
  ⟨1, ⟨(some 41), none, (.mv (.t 0))⟩, [0], [], [], []⟩,
  ⟨2, ⟨(some 42), none, (.mv (.t 12))⟩, [12], [], [], []⟩,
  ⟨3, ⟨(some 43), none, (.iaddr 1 (.t 41) (.t 42))⟩, [41, 42], [2, 1], [], []⟩,
  ⟨4, ⟨(some 44), none, (.ld none (.t 43))⟩, [43], [1, 2, 3], [], []⟩,
  ⟨5, ⟨(some 45), none, (.mv (.t 0))⟩, [0], [], [], []⟩,
  ⟨6, ⟨(some 46), none, (.mv (.t 1))⟩, [1], [], [], []⟩,
  ⟨7, ⟨(some 47), none, (.iaddr 1 (.t 45) (.t 46))⟩, [45, 46], [6, 5], [], []⟩,
  ⟨8, ⟨(some 48), none, (.ld none (.t 47))⟩, [47], [5, 6, 7], [], []⟩,
  ⟨9, ⟨(some 49), none, (.call (.t 40) [(.t 44), (.t 48)])⟩, [40, 44, 48], [7, 6, 5, 8, 3, 2, 1, 4, 0], [], []⟩,
  ⟨10, ⟨(some 50), none, (.bin .lss (.t 49) (.c (.lit (.int .i64 0))))⟩, [49], [0, 4, 1, 2, 3, 8, 5, 6, 7, 9], [], []⟩]

def f41_6 : List AI :=
  [
  ⟨(some 51), none, (.mv (.t 12))⟩,
  ⟨(some 52), none, (.bin .add (.t 51) (.c (.lit (.int .i64 1))))⟩,
  ⟨(some 10), none, (.mv (.t 52))⟩]

def f41_7 : List AI :=
  [
  ⟨(some 53), none, (.mv (.t 12))⟩,
  ⟨(some 11), none, (.mv (.t 53))⟩]

def f41_8 : AC :=
  (.seq (.ops f41_4)
  (.seq (.draw f41_5)
  (.cond (.t 50) (.ops f41_6) (.ops f41_7))))

def f41_9 : AC :=
  (.seq (.seq (.ops f41_3)
  (.cond (.t 33) .skip (.exit 0)))
  (.block 1 f41_8))

def f41_10 : AC :=
  (.loop [0, 1, 4, 10, 11] f41_9)

def f41_11 : List AI :=
  [
  ⟨(some 54), none, (.mv (.t 1))⟩,
  ⟨(some 13), none, (.mv (.t 54))⟩]

def f41_12 : List AI :=
  [
  ⟨(some 55), none, (.mv (.t 13))⟩,
  ⟨(some 56), none, (.mv (.t 10))⟩,
  ⟨(some 57), none, (.bin .sub (.t 56) (.c (.lit (.int .i64 1))))⟩,
  ⟨(some 58), none, (.bin .lss (.t 55) (.t 57))⟩]

def f41_13 : List DI :=
  [
  ⟨0, ⟨(some 61), none, (.mv (.t 0))⟩, [0], [], [], []⟩,
  ⟨1, ⟨(some 62), none, (.mv (.t 13))⟩, [13], [], [], []⟩,
  ⟨2, ⟨(some 63), none, (.mv (.t 0))⟩, [0], [], [], []⟩,
  ⟨3, ⟨(some 64), none, (.mv (.t 13))⟩, [13], [], [], []⟩,
  ⟨4, ⟨(some 65), none, (.bin .add (.t 64) (.c (.lit (.int .i64 1))))⟩, [64], [3], [], []⟩,
  ⟨5, ⟨(some 66), none, (.mv (.t 0))⟩, [0], [], [], []⟩,
  ⟨6, ⟨(some 67), none, (.mv (.t 13))⟩, [13], [], [], []⟩,
  ⟨7, ⟨(some 68), none, (.bin .add (.t 67) (.c (.lit (.int .i64 1))))⟩, [67], [6], [], []⟩,
  ⟨8, ⟨(some 69), none, (.iaddr 1 (.t 66) (.t 68))⟩, [66, 68], [6, 7, 5], [], []⟩,
  ⟨9, ⟨(some 70), none, (.ld none (.t 69))⟩, [69], [5, 7, 6, 8], [], []⟩,
  ⟨10, ⟨(some 71), none, (.mv (.t 0))⟩, [0], [], [], []⟩,
  ⟨11, ⟨(some 72), none, (.mv (.t 13))⟩, [13], [], [], []⟩,
  ⟨12, ⟨(some 73), none, (.iaddr 1 (.t 71) (.t 72))⟩, [71, 72], [11, 10], [], []⟩,
  ⟨13, ⟨(some 74), none, (.ld none (.t 73))⟩, [73], [10, 11, 12], [], []⟩,
  ⟨14, ⟨(some 75), none, (.iaddr 1 (.t 61) (.t 62))⟩, [61, 62], [12, 11, 10, 13, 9, 8, 7, 6, 5, 1, 0], [], []⟩,
  ⟨15, ⟨none, none, (.st 1 (.t 75) (.t 70))⟩, [75, 70], [0, 1, 5, 6, 7, 8, 9, 13, 10, 11, 12, 14], [], []⟩,
  ⟨16, ⟨(some 76), none, (.iaddr 1 (.t 63) (.t 65))⟩, [63, 65], [15, 14, 13, 12, 11, 10, 9, 8, 7, 6, 5, 1, 0, 3, 4, 2], [], []⟩,
  ⟨17, ⟨none, none, (.st 1 (.t 76) (.t 74))⟩, [76, 74], [2, 4, 3, 0, 1, 5, 6, 7, 8, 9, 10, 11, 12, 13, 14, 15, 16], [], []⟩]

def f41_14 : List AI :=
  [
  ⟨(some 59), none, (.mv (.t 13))⟩,
  ⟨(some 60), none, (.bin .add (.t 59) (.c (.lit (.int .i64 1))))⟩,
  ⟨(some 13), none, (.mv (.t 60))⟩]

def f41_15 : AC :=
  (.seq (.seq (.ops f41_12)
  (.cond (.t 58) .skip (.exit 2)))
  (.seq (.block 3 (.draw f41_13))
  (.ops f41_14)))

def f41_16 : AC :=
  (.loop [0, 10, 13] f41_15)

def f41_17 : AC :=
  (.seq (.ops f41_1)
  (.seq (.ops f41_2)
  (.seq (.block 0 f41_10)
  (.seq (.seq (.ops f41_11)
  (.block 2 f41_16))
  .ret))))

def f41_18 : List AI :=
  [
  ⟨(some 77), none, (.mv (.t 3))⟩,
  ⟨(some 78), none, (.mv (.t 2))⟩,
  ⟨(some 79), none, (.bin .sub (.t 77) (.t 78))⟩,
  ⟨(some 80), none, (.bin .eql (.t 79) (.c (.lit (.int .i64 1))))⟩]

def f41_19 : List AI :=
  [
  ⟨(some 81), none, (.mv (.t 1))⟩,
  ⟨(some 14), none, (.mv (.t 81))⟩]

def f41_20 : List AI :=
  [
  ⟨(some 82), none, (.mv (.t 2))⟩,
  ⟨(some 15), none, (.mv (.t 82))⟩]

def f41_21 : List AI :=
  [
  ⟨(some 83), none, (.mv (.t 14))⟩,
  ⟨(some 84), none, (.mv (.t 15))⟩,
  ⟨(some 85), none, (.bin .lss (.t 83) (.t 84))⟩]

def f41_22 : List AI :=
  [
  ⟨(some 86), none, (.mv (.t 14))⟩,
  ⟨(some 87), none, (.mv (.t 15))⟩,
  ⟨(some 88), none, (.bin .add (.t 86) (.t 87))⟩,
  ⟨(some 89), none, (.conv .u64 (.t 88))⟩,
  ⟨(some 90), none, (.bin .shr (.t 89) (.c (.lit (.int .u64 1))))⟩,
  ⟨(some 91), none, (.conv .i64 (.t 90))⟩,
  ⟨(some 16), none, (.mv (.t 91))⟩]

def f41_23 : List DI :=
  [
  ⟨0, ⟨(some 92), none, (.mv (.t 4))⟩, [4], [], [], []⟩,
  ⟨1, ⟨(some 93), none, (.mv (.t 0))⟩, [0], [], [], []⟩,
  ⟨2, ⟨(some 94), none, (.mv (.t 2))⟩, [2], [], [], []⟩,
  ⟨3, ⟨(some 95), none, (.iaddr 1 (.t 93) (.t 94))⟩, [93, 94], [2, 1], [], []⟩,
  ⟨4, ⟨(some 96), none, (.ld none (.t 95))⟩, [95], [1, 2, 3], [], []⟩,
  ⟨5, ⟨(some 97), none, (.mv (.t 0))⟩, [0], [], [], []⟩,
  ⟨6, ⟨(some 98), none, (.mv (.t 16))⟩, [16], [], [], []⟩,
  ⟨7, ⟨(some 99), none, (.iaddr 1 (.t 97) (.t 98))⟩, [97, 98], [6, 5], [], []⟩,
  ⟨8, ⟨(some 100), none, (.ld none (.t 99))⟩, [99], [5, 6, 7], [], []⟩,
  ⟨9, ⟨(some 101), none, (.call (.t 92) [(.t 96), (.t 100)])⟩, [92, 96, 100], [7, 6, 5, 8, 3, 2, 1, 4, 0], [], []⟩,
  ⟨10, ⟨(some 102), none, (.bin .lss (.t 101) (.c (.lit (.int .i64 0))))⟩, [101], [0, 4, 1, 2, 3, 8, 5, 6, 7, 9], [], []⟩,
  ⟨11, ⟨(some 103), none, (.un .not (.t 102))⟩, [102], [9, 7, 6, 5, 8, 3, 2, 1, 4, 0, 10], [], []⟩]

def f41_24 : List AI :=
  [
  ⟨(some 104), none, (.mv (.t 16))⟩,
  ⟨(some 105), none, (.bin .add (.t 104) (.c (.lit (.int .i64 1))))⟩,
  ⟨(some 14), none, (.mv (.t 105))⟩]

def f41_25 : List AI :=
  [
  ⟨(some 106), none, (.mv (.t 16))⟩,
  ⟨(some 15), none, (.mv (.t 106))⟩]

def f41_26 : AC :=
  (.seq (.ops f41_22)
  (.seq (.draw f41_23)
  (.cond (.t 103) (.ops f41_24) (.ops f41_25))))

def f41_27 : AC :=
  (.seq (.seq (.ops f41_21)
  (.cond (.t 85) .skip (.exit 4)))
  (.block 5 f41_26))

def f41_28 : AC :=
  (.loop [0, 2, 4, 14, 15] f41_27)

def f41_29 : List AI :=
  [
  ⟨(some 107), none, (.mv (.t 2))⟩,
  ⟨(some 17), none, (.mv (.t 107))⟩]

def f41_30 : List AI :=
  [
  ⟨(some 108), none, (.mv (.t 17))⟩,
  ⟨(some 109), none, (.mv (.t 14))⟩,
  ⟨(some 110), none, (.bin .gtr (.t 108) (.t 109))⟩]

def f41_31 : List DI :=
  [
  ⟨0, ⟨(some 113), none, (.mv (.t 0))⟩, [0], [], [], []⟩,
  ⟨1, ⟨(some 114), none, (.mv (.t 17))⟩, [17], [], [], []⟩,
  ⟨2, ⟨(some 115), none, (.mv (.t 0))⟩, [0], [], [], []⟩,
  ⟨3, ⟨(some 116), none, (.mv (.t 17))⟩, [17], [], [], []⟩,
  ⟨4, ⟨(some 117), none, (.bin .sub (.t 116) (.c (.lit (.int .i64 1))))⟩, [116], [3], [], []⟩,
  ⟨5, ⟨(some 118), none, (.mv (.t 0))⟩, [0], [], [], []⟩,
  ⟨6, ⟨(some 119), none, (.mv (.t 17))⟩, [17], [], [], []⟩,
  ⟨7, ⟨(some 120), none, (.bin .sub (.t 119) (.c (.lit (.int .i64 1))))⟩, [119], [6], [], []⟩,
  ⟨8, ⟨(some 121), none, (.iaddr 1 (.t 118) (.t 120))⟩, [118, 120], [6, 7, 5], [], []⟩,
  ⟨9, ⟨(some 122), none, (.ld none (.t 121))⟩, [121], [5, 7, 6, 8], [], []⟩,
  ⟨10, ⟨(some 123), none, (.mv (.t 0))⟩, [0], [], [], []⟩,
  ⟨11, ⟨(some 124), none, (.mv (.t 17))⟩, [17], [], [], []⟩,
  ⟨12, ⟨(some 125), none, (.iaddr 1 (.t 123) (.t 124))⟩, [123, 124], [11, 10], [], []⟩,
  ⟨13, ⟨(some 126), none, (.ld none (.t 125))⟩, [125], [10, 11, 12], [], []⟩,
  ⟨14, ⟨(some 127), none, (.iaddr 1 (.t 113) (.t 114))⟩, [113, 114], [12, 11, 10, 13, 9, 8, 7, 6, 5, 1, 0], [], []⟩,
  ⟨15, ⟨none, none, (.st 1 (.t 127) (.t 122))⟩, [127, 122], [0, 1, 5, 6, 7, 8, 9, 13, 10, 11, 12, 14], [], []⟩,
  ⟨16, ⟨(some 128), none, (.iaddr 1 (.t 115) (.t 117))⟩, [115, 117], [15, 14, 13, 12, 11, 10, 9, 8, 7, 6, 5, 1, 0, 3, 4, 2], [], []⟩,
  ⟨17, ⟨none, none, (.st 1 (.t 128) (.t 126))⟩, [128, 126], [2, 4, 3, 0, 1, 5, 6, 7, 8, 9, 10, 11, 12, 13, 14, 15, 16], [], []⟩]

def f41_32 : List AI :=
  [
  ⟨(some 111), none, (.mv (.t 17))⟩,
  ⟨(some 112), none, (.bin .sub (.t 111) (.c (.lit (.int .i64 1))))⟩,
  ⟨(some 17), none, (.mv (.t 112))⟩]

def f41_33 : AC :=
  (.seq (.seq (.ops f41_30)
  (.cond (.t 110) .skip (.exit 6)))
  (.seq (.block 7 (.draw f41_31))
  (.ops f41_32)))

def f41_34 : AC :=
  (.loop [0, 14, 17] f41_33)

def f41_35 : AC :=
  (.seq (.ops f41_19)
  (.seq (.ops f41_20)
  (.seq (.block 4 f41_28)
  (.seq (.seq (.ops f41_29)
  (.block 6 f41_34))
  .ret))))

def f41_36 : List AI :=
  [
  ⟨(some 129), none, (.mv (.t 1))⟩,
  ⟨(some 130), none, (.mv (.t 3))⟩,
  ⟨(some 131), none, (.bin .add (.t 129) (.t 130))⟩,
  ⟨(some 132), none, (.conv .u64 (.t 131))⟩,
  ⟨(some 133), none, (.bin .shr (.t 132) (.c (.lit (.int .u64 1))))⟩,
  ⟨(some 134), none, (.conv .i64 (.t 133))⟩,
  ⟨(some 18), none, (.mv (.t 134))⟩]

def f41_37 : List AI :=
  [
  ⟨(some 135), none, (.mv (.t 18))⟩,
  ⟨(some 136), none, (.mv (.t 2))⟩,
  ⟨(some 137), none, (.bin .add (.t 135) (.t 136))⟩,
  ⟨(some 19), none, (.mv (.t 137))⟩]

def f41_38 : List AI :=
  [
  ⟨(some 20), none, (.mv (.c (.lit (.int .i64 0))))⟩,
  ⟨(some 21), none, (.mv (.c (.lit (.int .i64 0))))⟩]

def f41_39 : List AI :=
  [
  ⟨(some 138), none, (.mv (.t 2))⟩,
  ⟨(some 139), none, (.mv (.t 18))⟩,
  ⟨(some 140), none, (.bin .gtr (.t 138) (.t 139))⟩]

def f41_40 : List AI :=
  [
  ⟨(some 141), none, (.mv (.t 19))⟩,
  ⟨(some 142), none, (.mv (.t 3))⟩,
  ⟨(some 143), none, (.bin .sub (.t 141) (.t 142))⟩,
  ⟨(some 20), none, (.mv (.t 143))⟩]

def f41_41 : List AI :=
  [
  ⟨(some 144), none, (.mv (.t 18))⟩,
  ⟨(some 21), none, (.mv (.t 144))⟩]

def f41_42 : AC :=
  (.seq (.ops f41_40)
  (.ops f41_41))

def f41_43 : List AI :=
  [
  ⟨(some 145), none, (.mv (.t 1))⟩,
  ⟨(some 20), none, (.mv (.t 145))⟩]

def f41_44 : List AI :=
  [
  ⟨(some 146), none, (.mv (.t 2))⟩,
  ⟨(some 21), none, (.mv (.t 146))⟩]

def f41_45 : AC :=
  (.seq (.ops f41_43)
  (.ops f41_44))

def f41_46 : List AI :=
  [
  ⟨(some 147), none, (.mv (.t 19))⟩,
  ⟨(some 148), none, (.bin .sub (.t 147) (.c (.lit (.int .i64 1))))⟩,
  ⟨(some 22), none, (.mv (.t 148))⟩]

def f41_47 : List AI :=
  [
  ⟨(some 149), none, (.mv (.t 20))⟩,
  ⟨(some 150), none, (.mv (.t 21))⟩,
  ⟨(some 151), none, (.bin .lss (.t 149) (.t 150))⟩]

def f41_48 : List AI :=
  [
  ⟨(some 152), none, (.mv (.t 20))⟩,
  ⟨(some 153), none, (.mv (.t 21))⟩,
  ⟨(some 154), none, (.bin .add (.t 152) (.t 153))⟩,
  ⟨(some 155), none, (.conv .u64 (.t 154))⟩,
  ⟨(some 156), none, (.bin .shr (.t 155) (.c (.lit (.int .u64 1))))⟩,
  ⟨(some 157), none, (.conv .i64 (.t 156))⟩,
  ⟨(some 23), none, (.mv (.t 157))⟩]

def f41_49 : List DI :=
  [
  ⟨0, ⟨(some 158), none, (.mv (.t 4))⟩, [4], [], [], []⟩,
  ⟨1, ⟨(some 159), none, (.mv (.t 0))⟩, [0], [], [], []⟩,
  ⟨2, ⟨(some 160), none, (.mv (.t 22))⟩, [22], [], [], []⟩,
  ⟨3, ⟨(some 161), none, (.mv (.t 23))⟩, [23], [], [], []⟩,
  ⟨4, ⟨(some 162), none, (.bin .sub (.t 160) (.t 161))⟩, [160, 161], [3, 2], [], []⟩,
  ⟨5, ⟨(some 163), none, (.iaddr 1 (.t 159) (.t 162))⟩, [159, 162], [2, 3, 4, 1], [], []⟩,
  ⟨6, ⟨(some 164), none, (.ld none (.t 163))⟩, [163], [1, 4, 3, 2, 5], [], []⟩,
  ⟨7, ⟨(some 165), none, (.mv (.t 0))⟩, [0], [], [], []⟩,
  ⟨8, ⟨(some 166), none, (.mv (.t 23))⟩, [23], [], [], []⟩,
  ⟨9, ⟨(some 167), none, (.iaddr 1 (.t 165) (.t 166))⟩, [165, 166], [8, 7], [], []⟩,
  ⟨10, ⟨(some 168), none, (.ld none (.t 167))⟩, [167], [7, 8, 9], [], []⟩,
  ⟨11, ⟨(some 169), none, (.call (.t 158) [(.t 164), (.t 168)])⟩, [158, 164, 168], [9, 8, 7, 10, 5, 2, 3, 4, 1, 6, 0], [], []⟩,
  ⟨12, ⟨(some 170), none, (.bin .lss (.t 169) (.c (.lit (.int .i64 0))))⟩, [169], [0, 6, 1, 4, 3, 2, 5, 10, 7, 8, 9, 11], [], []⟩,
  ⟨13, ⟨(some 171), none, (.un .not (.t 170))⟩, [170], [11, 9, 8, 7, 10, 5, 2, 3, 4, 1, 6, 0, 12], [], []⟩]

def f41_50 : List AI :=
  [
  ⟨(some 172), none, (.mv (.t 23))⟩,
  ⟨(some 173), none, (.bin .add (.t 172) (.c (.lit (.int .i64 1))))⟩,
  ⟨(some 20), none, (.mv (.t 173))⟩]

def f41_51 : List AI :=
  [
  ⟨(some 174), none, (.mv (.t 23))⟩,
  ⟨(some 21), none, (.mv (.t 174))⟩]

def f41_52 : AC :=
  (.seq (.ops f41_48)
  (.seq (.draw f41_49)
  (.cond (.t 171) (.ops f41_50) (.ops f41_51))))

def f41_53 : AC :=
  (.seq (.seq (.ops f41_47)
  (.cond (.t 151) .skip (.exit 8)))
  (.block 9 f41_52))

def f41_54 : AC :=
  (.loop [0, 1, 2, 3, 4, 18, 19, 20, 21, 22] f41_53)

def f41_55 : List AI :=
  [
  ⟨(some 175), none, (.mv (.t 19))⟩,
  ⟨(some 176), none, (.mv (.t 20))⟩,
  ⟨(some 177), none, (.bin .sub (.t 175) (.t 176))⟩,
  ⟨(some 24), none, (.mv (.t 177))⟩]

def f41_56 : List AI :=
  [
  ⟨(some 178), none, (.mv (.t 20))⟩,
  ⟨(some 179), none, (.mv (.t 2))⟩,
  ⟨(some 180), none, (.bin .lss (.t 178) (.t 179))⟩,
  ⟨(some 181), none, (.mv (.t 180))⟩,
  ⟨(some 182), (some (181, true)), (.mv (.t 2))⟩,
  ⟨(some 183), (some (181, true)), (.mv (.t 24))⟩,
  ⟨(some 184), (some (181, true)), (.bin .lss (.t 182) (.t 183))⟩,
  ⟨(some 185), none, (.pick (.t 181) (.t 184) (.c (.lit (.bool false))))⟩]

def f41_57 : List AI :=
  [
  ⟨(some 186), none, (.mv (.t 0))⟩,
  ⟨(some 187), none, (.mv (.t 20))⟩,
  ⟨(some 188), none, (.mv (.t 2))⟩,
  ⟨(some 189), none, (.mv (.t 24))⟩,
  ⟨(some 190), none, (.mv (.t 4))⟩,
  ⟨(some 191), none, (.call (.c (.fn (.func 54) [] [])) [(.t 186), (.t 187), (.t 188), (.t 189), (.t 190)])⟩]

def f41_58 : List AI :=
  [
  ⟨(some 192), none, (.mv (.t 1))⟩,
  ⟨(some 193), none, (.mv (.t 20))⟩,
  ⟨(some 194), none, (.bin .lss (.t 192) (.t 193))⟩,
  ⟨(some 195), none, (.mv (.t 194))⟩,
  ⟨(some 196), (some (195, true)), (.mv (.t 20))⟩,
  ⟨(some 197), (some (195, true)), (.mv (.t 18))⟩,
  ⟨(some 198), (some (195, true)), (.bin .lss (.t 196) (.t 197))⟩,
  ⟨(some 199), none, (.pick (.t 195) (.t 198) (.c (.lit (.bool false))))⟩]

def f41_59 : List AI :=
  [
  ⟨(some 200), none, (.mv (.t 0))⟩,
  ⟨(some 201), none, (.mv (.t 1))⟩,
  ⟨(some 202), none, (.mv (.t 20))⟩,
  ⟨(some 203), none, (.mv (.t 18))⟩,
  ⟨(some 204), none, (.mv (.t 4))⟩,
  ⟨(some 205), none, (.call (.c (.fn (.func 41) [] [])) [(.t 200), (.t 201), (.t 202), (.t 203), (.t 204)])⟩]

def f41_60 : List AI :=
  [
  ⟨(some 206), none, (.mv (.t 18))⟩,
  ⟨(some 207), none, (.mv (.t 24))⟩,
  ⟨(some 208), none, (.bin .lss (.t 206) (.t 207))⟩,
  ⟨(some 209), none, (.mv (.t 208))⟩,
  ⟨(some 210), (some (209, true)), (.mv (.t 24))⟩,
  ⟨(some 211), (some (209, true)), (.mv (.t 3))⟩,
  ⟨(some 212), (some (209, true)), (.bin .lss (.t 210) (.t 211))⟩,
  ⟨(some 213), none, (.pick (.t 209) (.t 212) (.c (.lit (.bool false))))⟩]

def f41_61 : List AI :=
  [
  ⟨(some 214), none, (.mv (.t 0))⟩,
  ⟨(some 215), none, (.mv (.t 18))⟩,
  ⟨(some 216), none, (.mv (.t 24))⟩,
  ⟨(some 217), none, (.mv (.t 3))⟩,
  ⟨(some 218), none, (.mv (.t 4))⟩,
  ⟨(some 219), none, (.call (.c (.fn (.func 41) [] [])) [(.t 214), (.t 215), (.t 216), (.t 217), (.t 218)])⟩]

def f41 : AFn := ⟨5, 220, [],
  (.seq (.seq (.ops f41_0)
  (.cond (.t 28) f41_17 .skip))
  (.seq (.seq (.ops f41_18)
  (.cond (.t 80) f41_35 .skip))
  (.seq (.ops f41_36)
  (.seq (.ops f41_37)
  (.seq (.ops f41_38)
  (.seq (.seq (.ops f41_39)
  (.cond (.t 140) f41_42 f41_45))
  (.seq (.ops f41_46)
  (.seq (.block 8 f41_54)
  (.seq (.ops f41_55)
  (.seq (.seq (.ops f41_56)
  (.cond (.t 185) (.ops f41_57) .skip))
  (.seq (.seq (.ops f41_58)
  (.cond (.t 199) (.ops f41_59) .skip))
  (.seq (.ops f41_60)
  (.cond (.t 213) (.ops f41_61) .skip)))))))))))))⟩

theorem f41_tr : trFn Go.Proofs.Try.prog 41 [[0, 1, 4, 10, 11], [0, 10, 13], [0, 2, 4, 14, 15], [0, 14, 17], [0, 1, 2, 3, 4, 18, 19, 20, 21, 22]] = some f41 := by kernel_rfl

def f42_0 : List AI :=
  [
  ⟨(some 8), none, (.mv (.t 0))⟩,
  ⟨(some 9), none, (.len 1 (.t 8))⟩,
  ⟨(some 10), none, (.mv (.c (.lit (.int .i64 0))))⟩]

def f42_1 : List AI :=
  [
  ⟨(some 12), none, (.iaddr 1 (.t 8) (.t 10))⟩,
  ⟨(some 13), none, (.ld none (.t 12))⟩,
  ⟨(some 7), none, (.mv (.t 13))⟩]

def f42_2 : List AI :=
  [
  ⟨(some 15), none, (.mv (.t 7))⟩,
  ⟨(some 16), none, (.bin .lss (.t 15) (.c (.lit (.int .i64 0))))⟩,
  ⟨(some 17), none, (.mv (.t 16))⟩,
  ⟨(some 18), (some (17, false)), (.mv (.t 7))⟩,
  ⟨(some 19), (some (17, false)), (.mv (.t 1))⟩,
  ⟨(some 20), (some (17, false)), (.bin .geq (.t 18) (.t 19))⟩,
  ⟨(some 21), none, (.pick (.t 17) (.c (.lit (.bool true))) (.t 20))⟩,
  ⟨(some 14), none, (.mv (.t 21))⟩]

def f42_3 : AC :=
  (.seq (.ops [
  ⟨(some 4), none, (.mv (.c (.lit (.int .i64 11))))⟩])
  .ret)

def f42_4 : List AI :=
  [
  ⟨(some 23), none, (.mv (.t 7))⟩,
  ⟨(some 24), none, (.iaddrA 64 1 (.t 5) (.t 23))⟩,
  ⟨(some 25), none, (.ld none (.t 24))⟩,
  ⟨(some 22), none, (.mv (.t 25))⟩]

def f42_5 : AC :=
  (.seq (.ops [
  ⟨(some 4), none, (.mv (.c (.lit (.int .i64 5))))⟩])
  .ret)

def f42_6 : AC :=
  (.seq (.ops f42_4)
  (.cond (.t 22) f42_5 .skip))

def f42_7 : AC :=
  (.seq (.ops f42_2)
  (.cond (.t 14) f42_3 f42_6))

def f42_8 : List AI :=
  [
  ⟨(some 26), none, (.mv (.t 7))⟩,
  ⟨(some 27), none, (.iaddrA 64 1 (.t 5) (.t 26))⟩,
  ⟨none, none, (.st 1 (.t 27) (.c (.lit (.bool true))))⟩]

def f42_9 : AC :=
  (.seq (.ops f42_1)
  (.seq (.block 2 f42_7)
  (.ops f42_8)))

def f42_10 : List AI :=
  [
  ⟨(some 28), none, (.bin .add (.t 10) (.c (.lit (.int .i64 1))))⟩,
  ⟨(some 10), none, (.mv (.t 28))⟩]

def f42_11 : AC :=
  (.seq (.ops [
  ⟨(some 11), none, (.bin .lss (.t 10) (.t 9))⟩])
  (.seq (.cond (.t 11) .skip (.exit 0))
  (.seq (.block 1 f42_9)
  (.ops f42_10))))

def f42_12 : AC :=
  (.loop [1, 5, 8, 9, 10] f42_11)

def f42 : AFn := ⟨2, 29, [(.tmp 4)],
  (.seq (.ops [
  ⟨(some 4), none, (.mv (.c (.lit (.int .i64 0))))⟩])
  (.seq (.ops [
  ⟨(some 5), none, (.new [(.lit (.bool false)), (.lit (.bool false)), (.lit (.bool false)), (.lit (.bool false)), (.lit (.bool false)), (.lit (.bool false)), (.lit (.bool false)), (.lit (.bool false)), (.lit (.bool false)), (.lit (.bool false)), (.lit (.bool false)), (.lit (.bool false)), (.lit (.bool false)), (.lit (.bool false)), (.lit (.bool false)), (.lit (.bool false)), (.lit (.bool false)), (.lit (.bool false)), (.lit (.bool false)), (.lit (.bool false)), (.lit (.bool false)), (.lit (.bool false)), (.lit (.bool false)), (.lit (.bool false)), (.lit (.bool false)), (.lit (.bool false)), (.lit (.bool false)), (.lit (.bool false)), (.lit (.bool false)), (.lit (.bool false)), (.lit (.bool false)), (.lit (.bool false)), (.lit (.bool false)), (.lit (.bool false)), (.lit (.bool false)), (.lit (.bool false)), (.lit (.bool false)), (.lit (.bool false)), (.lit (.bool false)), (.lit (.bool false)), (.lit (.bool false)), (.lit (.bool false)), (.lit (.bool false)), (.lit (.bool false)), (.lit (.bool false)), (.lit (.bool false)), (.lit (.bool false)), (.lit (.bool false)), (.lit (.bool false)), (.lit (.bool false)), (.lit (.bool false)), (.lit (.bool false)), (.lit (.bool false)), (.lit (.bool false)), (.lit (.bool false)), (.lit (.bool false)), (.lit (.bool false)), (.lit (.bool false)), (.lit (.bool false)), (.lit (.bool false)), (.lit (.bool false)), (.lit (.bool false)), (.lit (.bool false)), (.lit (.bool false))])⟩])
  (.seq (.seq (.ops f42_0)
  (.block 0 f42_12))
  (.seq (.ops [
  ⟨(some 4), none, (.mv (.c (.lit (.int .i64 0))))⟩])
  .ret))))⟩

theorem f42_tr : trFn Go.Proofs.Try.prog 42 [[1, 5, 8, 9, 10]] = some f42 := by kernel_rfl

def f49_0 : List AI :=
  [
  ⟨(some 5), none, (.mv (.t 0))⟩,
  ⟨(some 6), none, (.call (.c (.fn (.func 60) [] [])) [(.t 5)])⟩,
  ⟨(some 7), none, (.mv (.t 6))⟩,
  ⟨(some 8), (some (7, true)), (.mv (.t 1))⟩,
  ⟨(some 9), (some (7, true)), (.call (.c (.fn (.func 60) [] [])) [(.t 8)])⟩,
  ⟨(some 10), (some (7, true)), (.un .not (.t 9))⟩,
  ⟨(some 11), none, (.pick (.t 7) (.t 10) (.c (.lit (.bool false))))⟩,
  ⟨(some 12), none, (.mv (.t 11))⟩,
  ⟨(some 13), (some (12, false)), (.mv (.t 0))⟩,
  ⟨(some 14), (some (12, false)), (.mv (.t 1))⟩,
  ⟨(some 15), (some (12, false)), (.bin .lss (.t 13) (.t 14))⟩,
  ⟨(some 16), none, (.pick (.t 12) (.c (.lit (.bool true))) (.t 15))⟩,
  ⟨(some 4), none, (.mv (.t 16))⟩]

def f49 : AFn := ⟨2, 17, [(.tmp 4)],
  (.seq (.ops [
  ⟨(some 4), none, (.mv (.c (.lit (.bool false))))⟩])
  (.seq (.ops f49_0)
  .ret))⟩

theorem f49_tr : trFn Go.Proofs.Try.prog 49 [] = some f49 := by kernel_rfl

def entries : List (FuncId × Entry) := [(3, .code f3), (4, .code f4), (5, .code f5), (6, .code f6), (7, .code f7), (8, .code f8), (9, .code f9), (10, .code f10), (11, .code f11), (12, .code f12), (13, .code f13), (14, .code f14), (15, .code f15), (16, .code f16), (18, .code f18), (19, .code f19), (20, .code f20), (21, .code f21), (22, .code f22), (23, .code f23), (24, .code f24), (25, .code f25), (26, .code f26), (27, .code f27), (28, .code f28), (32, .code f32), (33, .code f33), (34, .code f34), (35, .code f35), (36, .code f36), (40, .code f40), (41, .code f41), (42, .code f42), (49, .code f49)]

theorem entries_ok : ∀ p ∈ entries, EntryOk Go.Proofs.Try.prog p.1 p.2 := by
  unfold entries
  refine List.forall_mem_cons.2 ⟨trFn_ok f3_tr, ?_⟩
  refine List.forall_mem_cons.2 ⟨trFn_ok f4_tr, ?_⟩
  refine List.forall_mem_cons.2 ⟨trFn_ok f5_tr, ?_⟩
  refine List.forall_mem_cons.2 ⟨trFn_ok f6_tr, ?_⟩
  refine List.forall_mem_cons.2 ⟨trFn_ok f7_tr, ?_⟩
  refine List.forall_mem_cons.2 ⟨trFn_ok f8_tr, ?_⟩
  refine List.forall_mem_cons.2 ⟨trFn_ok f9_tr, ?_⟩
  refine List.forall_mem_cons.2 ⟨trFn_ok f10_tr, ?_⟩
  refine List.forall_mem_cons.2 ⟨trFn_ok f11_tr, ?_⟩
  refine List.forall_mem_cons.2 ⟨trFn_ok f12_tr, ?_⟩
  refine List.forall_mem_cons.2 ⟨trFn_ok f13_tr, ?_⟩
  refine List.forall_mem_cons.2 ⟨trFn_ok f14_tr, ?_⟩
  refine List.forall_mem_cons.2 ⟨trFn_ok f15_tr, ?_⟩
  refine List.forall_mem_cons.2 ⟨trFn_ok f16_tr, ?_⟩
  refine List.forall_mem_cons.2 ⟨trFn_ok f18_tr, ?_⟩
  refine List.forall_mem_cons.2 ⟨trFn_ok f19_tr, ?_⟩
  refine List.forall_mem_cons.2 ⟨trFn_ok f20_tr, ?_⟩
  refine List.forall_mem_cons.2 ⟨trFn_ok f21_tr, ?_⟩
  refine List.forall_mem_cons.2 ⟨trFn_ok f22_tr, ?_⟩
  refine List.forall_mem_cons.2 ⟨trFn_ok f23_tr, ?_⟩
  refine List.forall_mem_cons.2 ⟨trFn_ok f24_tr, ?_⟩
  refine List.forall_mem_cons.2 ⟨trFn_ok f25_tr, ?_⟩
  refine List.forall_mem_cons.2 ⟨trFn_ok f26_tr, ?_⟩
  refine List.forall_mem_cons.2 ⟨trFn_ok f27_tr, ?_⟩
  refine List.forall_mem_cons.2 ⟨trFn_ok f28_tr, ?_⟩
  refine List.forall_mem_cons.2 ⟨trFn_ok f32_tr, ?_⟩
  refine List.forall_mem_cons.2 ⟨trFn_ok f33_tr, ?_⟩
  refine List.forall_mem_cons.2 ⟨trFn_ok f34_tr, ?_⟩
  refine List.forall_mem_cons.2 ⟨trFn_ok f35_tr, ?_⟩
  refine List.forall_mem_cons.2 ⟨trFn_ok f36_tr, ?_⟩
  refine List.forall_mem_cons.2 ⟨trFn_ok f40_tr, ?_⟩
  refine List.forall_mem_cons.2 ⟨trFn_ok f41_tr, ?_⟩
  refine List.forall_mem_cons.2 ⟨trFn_ok f42_tr, ?_⟩
  refine List.forall_mem_cons.2 ⟨trFn_ok f49_tr, ?_⟩
  intro p hp
  cases hp

end Go.Ab.S1
